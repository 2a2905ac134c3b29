/-
  Package expr, walked: its arenas, Make, Normal, Parts, Ways, Seq, Choice, Rep, And, Not, Cap, Head, Tail.
-/
import Derived.Test.YtlhkkngpppcfoaaDoorExprPure
import Derived.Test.YtlhkkngpppcfoaaDoorSpoil
import Derived.Test.YtlhkkngpppcfoaaDoorMakesHelp
import Derived.Test.YtlhkkngpppcfoaaDoorWalkT
import Derived.Test.YtlhkkngpppcfoaaDoorNamesP
import Derived.Test.YtlhkkngpppcfoaaDoorBehind
set_option linter.all false
namespace Go.Sl
open Go.RowKit
theorem Inc.skip {H : HP} {L L' : List HP} (h : Inc L L') : Inc (H :: L) L' := by
  induction h with
  | nil => exact .nil
  | cons d _ ih => exact .cons (.there d) ih
theorem IncS {L L' : List HP} (h : Inc L L' := by repeat' (first | exact Inc.refl _ | exact Inc.nil | refine Inc.cons DelA ?_ | apply Inc.skip)) : Inc L L' := h
theorem DelR {L L' : List HP} {H : HP} (h : Del L H L' := by first | with_reducible exact Del.here | with_reducible exact (Del.there Del.here) | with_reducible exact (Del.there (Del.there Del.here)) | with_reducible exact (Del.there (Del.there (Del.there Del.here))) | with_reducible exact (Del.there (Del.there (Del.there (Del.there Del.here)))) | with_reducible exact (Del.there (Del.there (Del.there (Del.there (Del.there Del.here))))) | with_reducible exact (Del.there (Del.there (Del.there (Del.there (Del.there (Del.there Del.here)))))) | with_reducible exact (Del.there (Del.there (Del.there (Del.there (Del.there (Del.there (Del.there Del.here))))))) | with_reducible exact (Del.there (Del.there (Del.there (Del.there (Del.there (Del.there (Del.there (Del.there Del.here)))))))) | with_reducible exact (Del.there (Del.there (Del.there (Del.there (Del.there (Del.there (Del.there (Del.there (Del.there Del.here))))))))) | with_reducible exact (Del.there (Del.there (Del.there (Del.there (Del.there (Del.there (Del.there (Del.there (Del.there (Del.there Del.here)))))))))) | with_reducible exact (Del.there (Del.there (Del.there (Del.there (Del.there (Del.there (Del.there (Del.there (Del.there (Del.there (Del.there Del.here))))))))))) | with_reducible exact (Del.there (Del.there (Del.there (Del.there (Del.there (Del.there (Del.there (Del.there (Del.there (Del.there (Del.there (Del.there Del.here)))))))))))) | with_reducible exact (Del.there (Del.there (Del.there (Del.there (Del.there (Del.there (Del.there (Del.there (Del.there (Del.there (Del.there (Del.there (Del.there Del.here))))))))))))) | with_reducible exact (Del.there (Del.there (Del.there (Del.there (Del.there (Del.there (Del.there (Del.there (Del.there (Del.there (Del.there (Del.there (Del.there (Del.there Del.here)))))))))))))) | with_reducible exact (Del.there (Del.there (Del.there (Del.there (Del.there (Del.there (Del.there (Del.there (Del.there (Del.there (Del.there (Del.there (Del.there (Del.there (Del.there Del.here)))))))))))))))) : Del L H L' := h
theorem IncQ {L L' : List HP} (h : Inc L L' := by first | ((repeat' (first | with_reducible exact Inc.refl _ | with_reducible exact Inc.nil | (with_reducible apply Inc.cons; (exact DelR)) | (with_reducible apply Inc.skip))); done) | (dsimp only; ((repeat' (first | with_reducible exact Inc.refl _ | with_reducible exact Inc.nil | (with_reducible apply Inc.cons; (exact DelR)) | (with_reducible apply Inc.skip))); done)) | (repeat' (first | exact Inc.refl _ | exact Inc.nil | (apply Inc.cons; (exact DelA)) | apply Inc.skip))) : Inc L L' := h
section
variable {P : Program} {ops : Array Oper} {Q : Exit → Act → World → Prop} {rest : List Oper} {n : FD} {s : Sg} {pos : String} {af : Array Edge} {d : Nat} {ty : TypeId} {w0 : World} {L : List HP}
/-- a call of a function value with what it has captured -/
theorem op_callF {f : FuncId} {x : Nat} {xs : List Operand} {vs cap : List Value} {tys : Array TypeId} [hf' : CF P f] (hx : lk s x = some (.func (.func f) #[] cap.toArray)) (hxs : evs s xs = some vs) {a : Act} {w : World} {o : Oper}
    (ho : o.op = .call { callee := .value (.tmp x), args := xs.toArray, argTypes := tys }) (hf : Fr n s a) : (execOp a.eval o).run P w = .ok (.enter f (vs ++ cap).toArray) w := by
  have h1 := evs_eq hf hxs
  have h2 := hf.ev (x := .tmp x) hx
  simp [execOp, ho, resolve, Deferred.ofValue, h2, invoke, hf'.run _ w, ← h1]
theorem T.callFM {ι : Sort _} {val : ι → Value} {LL : ι → List HP} {f : FuncId} {x : Nat} {xs : List Operand} {vs cap : List Value} {tys : Array TypeId} (hd : Nat.blt d n.sz = true) [hf' : CF P f] (hx : lk s x = some (.func (.func f) #[] cap.toArray)) (hxs : evs s xs = some vs)
    (h : ∀ w, St w0 L w → Calls P f (vs ++ cap).toArray w (fun e w' => ∃ x, e = .returned (val x) ∧ St w0 (LL x) w'))
    (k : ∀ x, T P ops Q rest n ((d, val x) :: s) (St w0 (LL x))) :
    T P ops Q (⟨some d, .call { callee := .value (.tmp x), args := xs.toArray, argTypes := tys }, ty, pos, af, none⟩ :: rest) n s (St w0 L) :=
  T.cl hd ⟨f, (vs ++ cap).toArray, fun a w o ho _ hf _ => op_callF hx hxs ho hf, h⟩ k
end
end Go.Sl
namespace Go.Proofs.YtlhkkngpppcfoaaDoor
open Go Go.Sl Go.RowKit Go.Bonsai
set_option linter.unusedVariables false
set_option linter.unusedSimpArgs false

/-- an arena -/
def hAr (b : Nat) (ar : List Nod) : HP := hEx fun p : Option Addr × Nat × List (List Value) => hSep [own 34 9 p.1 ar.length p.2.1 p.2.2, hRows p.2.2 ar, blk b [.slice p.1 ar.length p.2.1] 84]
theorem hAr_mk {w0 w : World} {L : List HP} {b c : Nat} {A : Option Addr} {ar : List Nod} {rows : List (List Value)} (h : St w0 (own 34 9 A ar.length c rows :: hRows rows ar :: blk b [.slice A ar.length c] 84 :: L) w) : St w0 (hAr b ar :: L) w :=
  St.shutEx (f := fun p : Option Addr × Nat × List (List Value) => hSep [own 34 9 p.1 ar.length p.2.1 p.2.2, hRows p.2.2 ar, blk b [.slice p.1 ar.length p.2.1] 84]) (A, c, rows) (St.shutSep (K := [_, _, _]) h)
theorem hRows_shape {S : Nat → Prop} {w : World} {rows : List (List Value)} {ns : List Nod} (h : (hRows rows ns).on S w) : ShapeN rows ns := by
  refine ⟨h.1, fun i m hm => ?_⟩
  have hi : i < rows.length := by rw [h.1]; exact (List.getElem?_eq_some_iff.1 hm).1
  obtain ⟨e', K, kc, hc, _⟩ := (hRows_all h).2 i _ m (List.getElem?_eq_getElem hi) hm
  exact ⟨K, kc, by rw [List.getElem?_eq_getElem hi, hc]⟩
theorem hAr_open {w0 w : World} {L L' : List HP} {b : Nat} {ar : List Nod} (hd : Del L (hAr b ar) L') (h : St w0 L w) :
    ∃ x : { p : Option Addr × Nat × List (List Value) // ShapeN p.2.2 ar }, St w0 (own 34 9 x.1.1 ar.length x.1.2.1 x.1.2.2 :: hRows x.1.2.2 ar :: blk b [.slice x.1.1 ar.length x.1.2.1] 84 :: L') w := by
  obtain ⟨p, hp⟩ := St.openEx (h.del hd)
  have h2 := St.openSep hp
  obtain ⟨_, _, h3⟩ := h2.at_ (H := hRows p.2.2 ar) (.there .here)
  exact ⟨⟨p, hRows_shape h3⟩, h2⟩
abbrev RetA (w0 : World) (L0 : List HP) (b : Nat) (r : List Nod × Int) (e : Ending) (w' : World) : Prop := ∃ x : Unit, e = .returned (.int .i64 r.2) ∧ St w0 (hAr b r.1 :: L0) w'

theorem add_any {w0 : World} {L0 : List HP} (b e c : Nat) (A : Option Addr) (ar : List Nod) (n : Nod) (w : World) (hl : ar.length < bigN) (hw : St w0 (hAr b ar :: own e 1 A n.kids.length c (irows n.kids) :: L0) w) :
    Calls Tryd.prog 115 #[.pointer (some ⟨b, 0, none⟩), .agg (n.cells (.slice A n.kids.length c)).toArray] w (RetA w0 L0 b (ar ++ [n], ar.length)) := by
  unfold bigN at hl
  refine TC.calls (l := [.pointer (some ⟨b, 0, none⟩), .agg (n.cells (.slice A n.kids.length c)).toArray]) (M := St w0 (hAr b ar :: own e 1 A n.kids.length c (irows n.kids) :: L0)) Tryd.func115 rfl Tryd.ntmps115 rfl hw ?_
  refine TC.ex (fun w hw => hAr_open .here hw) (fun p => ?_)
  obtain ⟨⟨A1, c1, rows⟩, hsh⟩ := p
  dsimp only at hsh ⊢
  repeat' (first | (refine W1 ?_) | (refine W2 (fun hc => ?_) (fun hc => ?_)) | (intro _))
  refine TL.loud rfl rfl (Ac.append (rows := rows) (news := [n.cells (.slice A n.kids.length c)]) rfl rfl DelA (fun w hw => St.own_arr hw AtA) (fun _ _ r hr => by simp at hr; subst hr; rfl) (by unfold maxLen; omega) (by omega)) (fun p2 => ?_)
  obtain ⟨A2, c2⟩ := p2
  dsimp only
  repeat' (first | (refine W1 ?_) | (refine W2 (fun hc => ?_) (fun hc => ?_)) | (intro _))
  rename_i b2 b1
  refine TX.ret_tmp (v := .int .i64 ((ar.length + 1 - 1 : Nat) : Int)) rfl rfl (fun w' hw => ⟨(), by rw [Nat.add_sub_cancel], ?_⟩)
  have h1 := St.inc (L' := own e 1 A n.kids.length c (irows n.kids) :: hRows rows ar :: own 34 9 A2 (ar.length + 1) c2 (rows ++ [n.cells (.slice A n.kids.length c)]) :: blk b [.slice A2 (ar.length + 1) c2] 84 :: L0) IncQ hw
  have h2 := St.joinX (K := hRows (rows ++ [n.cells (.slice A n.kids.length c)]) (ar ++ [n])) (fun S S' w h h' hd => hRows_snoc rfl h h' hd) h1
  have hlen : (ar ++ [n]).length = ar.length + 1 := by simp
  exact hAr_mk (by rw [hlen]; exact h2.swap)

theorem keep_any {w0 : World} {L0 : List HP} (b e c : Nat) (A : Option Addr) (ar : List Nod) (n : Nod) (ks : List Int) (kv : Value) (w : World) (hl : ar.length < bigN) (hw : St w0 (hAr b ar :: own e 1 A ks.length c (irows ks) :: L0) w) :
    Calls Tryd.prog 105 #[.pointer (some ⟨b, 0, none⟩), .agg (n.cells kv).toArray, .slice A ks.length c] w (RetA w0 L0 b (ar ++ [{ n with kids := ks }], ar.length)) := by
  refine TC.calls (l := [.pointer (some ⟨b, 0, none⟩), .agg (n.cells kv).toArray, .slice A ks.length c]) (M := St w0 (hAr b ar :: own e 1 A ks.length c (irows ks) :: L0)) Tryd.func105 rfl Tryd.ntmps105 rfl hw ?_
  repeat' (first | (refine W1 ?_) | (refine W2 (fun hc => ?_) (fun hc => ?_)) | (intro _))
  rw [show splice (n.cells kv) (0 + 8) [.slice A ks.length c] = ({ n with kids := ks } : Nod).cells (.slice A ks.length c) from rfl]
  refine T.callM (val := fun _ : Unit => .int .i64 (ar.length : Int)) (LL := fun _ => hAr b (ar ++ [{ n with kids := ks }]) :: L0) rfl rfl (fun w' hw' => ?_) (fun _ => ?_)
  · have h1 := St.inc (L' := hAr b ar :: own e 1 A ks.length c (irows ks) :: L0) IncQ hw'
    exact add_any b e c A ar { n with kids := ks } w' hl h1
  repeat' (first | (refine W1 ?_) | (refine W2 (fun hc => ?_) (fun hc => ?_)) | (intro _))
  exact TX.ret_tmp rfl rfl (fun w' hw => ⟨(), rfl, hw⟩)

/-- what a part is put to -/
def gaP (n : Nod) (ar : List Nod) (P : List Int) (k : Int) : List Int := if n.kind ≠ 4 ∨ kindA ar k ≠ 0 then P ++ [k] else P
theorem gather_any {w0 : World} {L0 : List HP} (b bn ba bp : Nat) (ar : List Nod) (n : Nod) (kv : Value) (P : List Int) (k : Nat) (w : World) (hk : k < ar.length) (hl : P.length < bigL)
    (hw : St w0 (hAr b ar :: hBox bp 27 P :: blk ba [.pointer (some ⟨b, 0, none⟩)] 88 :: blk bn (n.cells kv) 34 :: L0) w) :
    Calls Tryd.prog 118 #[.int .i64 k, .pointer (some ⟨bn, 0, none⟩), .pointer (some ⟨ba, 0, none⟩), .pointer (some ⟨bp, 0, none⟩)] w
      (fun e w' => ∃ x : Unit, e = .returned (.tuple #[]) ∧ St w0 (hAr b ar :: hBox bp 27 (gaP n ar P k) :: blk ba [.pointer (some ⟨b, 0, none⟩)] 88 :: blk bn (n.cells kv) 34 :: L0) w') := by
  unfold bigL at hl
  refine TC.calls (l := [.int .i64 k, .pointer (some ⟨bn, 0, none⟩), .pointer (some ⟨ba, 0, none⟩), .pointer (some ⟨bp, 0, none⟩)]) (M := St w0 (hAr b ar :: hBox bp 27 P :: blk ba [.pointer (some ⟨b, 0, none⟩)] 88 :: blk bn (n.cells kv) 34 :: L0)) Tryd.func118 rfl Tryd.ntmps118 rfl hw ?_
  refine TC.ex (fun w hw => hAr_open .here hw) (fun p => ?_)
  obtain ⟨⟨A1, c1, rows⟩, hsh⟩ := p
  dsimp only at hsh ⊢
  refine TC.ex (fun w hw => hBox_open DelA hw) (fun p2 => ?_)
  obtain ⟨m, hm⟩ : ∃ m, ar[k]? = some m := ⟨_, List.getElem?_eq_getElem hk⟩
  obtain ⟨K, kc, hrow⟩ := hsh.2 k m hm
  refine TC.fact (φ := A1 = some (A1.getD default)) (fun w hw => (St.own_arr hw AtA).some_ (by omega)) (fun hA => ?_)
  have hend : ∀ {w' : World} {L' : List HP} {A2 : Option Addr} {c2 : Nat} {P' : List Int}, St w0 L' w' → Inc L' (own 3 1 A2 P'.length c2 (irows P') :: blk bp [.slice A2 P'.length c2] 27 :: own 34 9 A1 ar.length c1 rows :: hRows rows ar :: blk b [.slice A1 ar.length c1] 84 :: blk ba [.pointer (some ⟨b, 0, none⟩)] 88 :: blk bn (n.cells kv) 34 :: L0) →
      St w0 (hAr b ar :: hBox bp 27 P' :: blk ba [.pointer (some ⟨b, 0, none⟩)] 88 :: blk bn (n.cells kv) 34 :: L0) w' := by
    intro w' L' A2 c2 P' h hi
    have h1 := hBox_mk (h.inc hi)
    have h2 := St.inc (L' := own 34 9 A1 ar.length c1 rows :: hRows rows ar :: blk b [.slice A1 ar.length c1] 84 :: hBox bp 27 P' :: blk ba [.pointer (some ⟨b, 0, none⟩)] 88 :: blk bn (n.cells kv) 34 :: L0) IncQ h1
    exact hAr_mk h2
  have hkA : kindA ar k = m.kind := by unfold kindA; rw [List.getD_eq_getElem?_getD, Int.toNat_natCast, hm]; rfl
  unfold gaP
  rw [hkA]
  have e1 : irows P ++ irows [(k : Int)] = irows (P ++ [(k : Int)]) := by simp [irows]
  have e2 : P.length + 1 = (P ++ [(k : Int)]).length := by simp
  repeat' (first | (refine W1 ?_) | (refine W2 (fun hc => ?_) (fun hc => ?_)) | (intro _))
  · refine T.append (rows := irows P) (news := irows [(k : Int)]) rfl rfl rfl DelA (fun w hw => St.own_arr hw AtA) (fun _ _ r hr => by simp [irows] at hr; subst hr; rfl) (by unfold maxLen; omega) (by omega) (fun A2 c2 => ?_)
    rw [e1, e2]
    repeat' (first | (refine W1 ?_) | (refine W2 (fun hc => ?_) (fun hc => ?_)) | (intro _))
    refine TX.end0 rfl (fun w' hw => ⟨(), rfl, ?_⟩)
    rw [if_pos (by simp at hc; first | exact .inl hc | exact .inr hc)]
    exact hend (A2 := A2) (c2 := c2) hw IncQ
  · refine TX.end0 rfl (fun w' hw => ⟨(), rfl, ?_⟩)
    rw [if_neg (by simp at *; exact ⟨by assumption, by assumption⟩)]
    exact hend hw IncQ
  · refine T.append (rows := irows P) (news := irows [(k : Int)]) rfl rfl rfl DelA (fun w hw => St.own_arr hw AtA) (fun _ _ r hr => by simp [irows] at hr; subst hr; rfl) (by unfold maxLen; omega) (by omega) (fun A2 c2 => ?_)
    rw [e1, e2]
    repeat' (first | (refine W1 ?_) | (refine W2 (fun hc => ?_) (fun hc => ?_)) | (intro _))
    refine TX.end0 rfl (fun w' hw => ⟨(), rfl, ?_⟩)
    rw [if_pos (by simp at hc; first | exact .inl hc | exact .inr hc)]
    exact hend (A2 := A2) (c2 := c2) hw IncQ

theorem gaP_fold (n : Nod) (ar : List Nod) (ks : List Int) : ks.foldl (gaP n ar) [] = if n.kind = 4 then not0 ar ks else ks := by
  have h : ∀ (l P : List Int), l.foldl (gaP n ar) P = P ++ if n.kind = 4 then not0 ar l else l := by
    intro l
    induction l with
    | nil => intro P; simp [not0]
    | cons k l ih =>
      intro P
      rw [List.foldl_cons, ih]
      unfold gaP not0
      by_cases h4 : n.kind = 4 <;> by_cases h0 : kindA ar k = 0 <;> simp [h4, h0]
  simpa using h ks []
theorem gaP_len (n : Nod) (ar : List Nod) (P : List Int) (k : Int) : (gaP n ar P k).length ≤ P.length + 1 := by
  unfold gaP
  split <;> simp
theorem join_any {w0 : World} {L0 : List HP} (b e c : Nat) (A : Option Addr) (ar : List Nod) (n en : Nod) (ks : List Int) (kv : Value) (w : World) (hl : ar.length < bigN) (hkl : ks.length ≤ bigL) (hen : en.kids = []) (hks : ∀ k ∈ ks, 0 ≤ k ∧ k < (ar.length : Int)) (hw : St w0 (hAr b ar :: own e 1 A ks.length c (irows ks) :: L0) w) :
    Calls Tryd.prog 116 #[.pointer (some ⟨b, 0, none⟩), .agg (n.cells kv).toArray, .slice A ks.length c, .agg (en.cells (.slice none 0 0)).toArray] w (RetA w0 L0 b (joinA ar n en (if n.kind = 4 then not0 ar ks else ks))) := by
  unfold bigL at hkl
  refine TC.calls (l := [.pointer (some ⟨b, 0, none⟩), .agg (n.cells kv).toArray, .slice A ks.length c, .agg (en.cells (.slice none 0 0)).toArray]) (M := St w0 (hAr b ar :: own e 1 A ks.length c (irows ks) :: L0)) Tryd.func116 rfl Tryd.ntmps116 rfl hw ?_
  repeat' (first | (refine T.ev_ rfl (Ev.makeFunc (xs := [.tmp 5, .tmp 4, .tmp 9]) rfl) ?_) | (refine W1 ?_) | (refine W2 (fun hc => ?_) (fun hc => ?_)) | (intro _))
  rename_i ba bn bo bp
  refine TC.loopA (ι := Nat × List Int) (0, []) (fun k r => (16, .int .i64 k.1) :: r)
    (fun k => St w0 (hAr b ar :: hBox bp 27 k.2 :: blk ba [.pointer (some ⟨b, 0, none⟩)] 88 :: blk bn (n.cells kv) 34 :: blk bo (en.cells (.slice none 0 0)) 34 :: own e 1 A ks.length c (irows ks) :: L0))
    (fun k => k.1 ≤ ks.length ∧ k.2.length ≤ k.1 ∧ k.2 = (ks.take k.1).foldl (gaP n ar) []) (fun k => ks.length - k.1) KpA SubA (fun w' hw => ?_) ⟨Nat.zero_le _, Nat.le_refl _, rfl⟩ ?_
  · have h1 := St.own_nil (e := 3) (sz := 1) hw
    have h2 := hBox_mk (xs := []) (St.inc (L' := own 3 1 none 0 0 (irows []) :: blk bp [.slice none 0 0] 27 :: hAr b ar :: blk ba [.pointer (some ⟨b, 0, none⟩)] 88 :: blk bn (n.cells kv) 34 :: blk bo (en.cells (.slice none 0 0)) 34 :: own e 1 A ks.length c (irows ks) :: L0) IncQ h1)
    exact h2.swap
  rintro ⟨i, P⟩ ⟨hi, hPl, hP⟩
  simp only at hi hPl hP ⊢
  by_cases hlt : i < ks.length
  · have hck : decide ((i : Int) < (ks.length : Int)) = true := by simp [hlt]
    have hki := hks _ (List.getElem_mem hlt)
    have hgx : ks[i]? = some ks[i] := List.getElem?_eq_getElem hlt
    have htk : ks.take (i + 1) = ks.take i ++ [ks[i]] := List.take_succ_eq_append_getElem hlt
    generalize ks[i] = x at *
    obtain ⟨x, rfl⟩ : ∃ y : Nat, x = y := ⟨x.toNat, by omega⟩
    have hglen := gaP_len n ar P x
    repeat' (first | (refine W1 ?_) | (refine W2 (fun hc => ?_) (fun hc => ?_)) | (intro _))
    refine T.callFM (val := fun _ : Unit => .tuple #[]) (LL := fun _ => hAr b ar :: hBox bp 27 (gaP n ar P x) :: blk ba [.pointer (some ⟨b, 0, none⟩)] 88 :: blk bn (n.cells kv) 34 :: blk bo (en.cells (.slice none 0 0)) 34 :: own e 1 A ks.length c (irows ks) :: L0) (f := 118) (cap := [.pointer (some ⟨bn, 0, none⟩), .pointer (some ⟨ba, 0, none⟩), .pointer (some ⟨bp, 0, none⟩)]) (vs := [.int .i64 x]) rfl rfl rfl (fun w' hw' => ?_) (fun _ => ?_)
    · exact gather_any b bn ba bp ar n kv P x w' (by omega) (by unfold bigL; omega) hw'
    repeat' (first | (refine W1 ?_) | (refine W2 (fun hc => ?_) (fun hc => ?_)) | (intro _))
    exact TX.round (i + 1, gaP n ar P x) ⟨hlt, by show (gaP n ar P x).length ≤ i + 1; omega, by rw [htk, List.foldl_append, ← hP]; rfl⟩ (show ks.length - (i + 1) < ks.length - i by omega) SubA (fun w' hw => hw)
  · have hck : decide ((i : Int) < (ks.length : Int)) = false := by simp; omega
    rw [List.take_of_length_le (by omega), gaP_fold] at hP
    rw [← hP]
    refine TC.ex (fun w hw => hBox_open DelA hw) (fun p2 => ?_)
    obtain ⟨A2, c2⟩ := p2
    dsimp only
    rcases P with _ | ⟨p, _ | ⟨q, P⟩⟩
    · repeat' (first | (refine W1 ?_) | (refine W2 (fun hc => ?_) (fun hc => ?_)) | (intro _))
      refine T.sub (fun w hw => St.own_nil (e := 3) (sz := 1) hw) ?_
      refine T.callM (val := fun _ : Unit => .int .i64 (ar.length : Int)) (LL := fun _ => hAr b (ar ++ [en]) :: L0) rfl rfl (fun w' hw' => ?_) (fun _ => ?_)
      · have h1 := St.inc (L' := hAr b ar :: own 3 1 none 0 0 [] :: L0) IncQ hw'
        have h2 := add_any b 3 0 none ar en w' hl (by rw [hen]; exact h1)
        rw [show en.kids.length = 0 by rw [hen]; rfl] at h2
        exact h2
      repeat' (first | (refine W1 ?_) | (refine W2 (fun hc => ?_) (fun hc => ?_)) | (intro _))
      exact TX.ret_tmp rfl rfl (fun w' hw => ⟨(), rfl, hw⟩)
    · have hg : [p][0]? = some p := rfl
      have h0 : decide (([p].length : Int) = 0) = false := by simp
      have h1 : decide (([p].length : Int) = 1) = true := by simp
      have h2 : 0 < [p].length := by simp
      have hjn : joinA ar n en [p] = (ar, p) := rfl
      generalize hQ : [p] = Q at *
      refine TC.fact (φ := A2 = some (A2.getD default)) (fun w hw => (St.own_arr hw .here).some_ h2) (fun hA => ?_)
      repeat' (first | (refine W1 ?_) | (refine W2 (fun hc => ?_) (fun hc => ?_)) | (intro _))
      rw [hjn]
      exact TX.ret_tmp rfl rfl (fun w' hw => ⟨(), rfl, St.inc IncQ hw⟩)
    · have h0 : decide (((p :: q :: P).length : Int) = 0) = false := by simp; omega
      have h1 : decide (((p :: q :: P).length : Int) = 1) = false := by simp; omega
      have hjn : joinA ar n en (p :: q :: P) = (ar ++ [{ n with kids := p :: q :: P }], (ar.length : Int)) := rfl
      generalize (p :: q :: P) = Q at *
      rw [hjn]
      repeat' (first | (refine W1 ?_) | (refine W2 (fun hc => ?_) (fun hc => ?_)) | (intro _))
      refine T.callM (val := fun _ : Unit => .int .i64 (ar.length : Int)) (LL := fun _ => hAr b (ar ++ [{ n with kids := Q }]) :: L0) rfl rfl (fun w' hw' => ?_) (fun _ => ?_)
      · have h2 := St.inc (L' := hAr b ar :: own 3 1 A2 Q.length c2 (irows Q) :: L0) IncQ hw'
        exact keep_any b 3 c2 A2 ar n Q kv w' hl h2
      repeat' (first | (refine W1 ?_) | (refine W2 (fun hc => ?_) (fun hc => ?_)) | (intro _))
      exact TX.ret_tmp rfl rfl (fun w' hw => ⟨(), rfl, hw⟩)

theorem ar_seq {w0 : World} {L0 : List HP} (b e c : Nat) (A : Option Addr) (ar : List Nod) (n : Nod) (ks : List Int) (kv : Value) (w : World) (hk : n.kind = 4) (hl : ar.length < bigN) (hkl : ks.length ≤ bigL) (hks : ∀ k ∈ ks, 0 ≤ k ∧ k < (ar.length : Int)) (hw : St w0 (hAr b ar :: own e 1 A ks.length c (irows ks) :: L0) w) :
    Calls Tryd.prog 106 #[.pointer (some ⟨b, 0, none⟩), .agg (n.cells kv).toArray, .slice A ks.length c] w (RetA w0 L0 b (comeA ar n ks)) := by
  refine TC.calls (l := [.pointer (some ⟨b, 0, none⟩), .agg (n.cells kv).toArray, .slice A ks.length c]) (M := St w0 (hAr b ar :: own e 1 A ks.length c (irows ks) :: L0)) Tryd.func106 rfl Tryd.ntmps106 rfl hw ?_
  obtain ⟨r, hr⟩ : ∃ r, r = comeA ar n ks := ⟨_, rfl⟩
  have hj : joinA ar n emptyN (if n.kind = 4 then not0 ar ks else ks) = r := by rw [hr]; unfold comeA; rw [hk]; rfl
  rw [← hr]
  repeat' (first | (refine W1 ?_) | (refine W2 (fun hc => ?_) (fun hc => ?_)) | (intro _))
  refine T.callM (val := fun _ : Unit => .int .i64 r.2) (LL := fun _ => hAr b r.1 :: L0) rfl rfl (fun w' hw' => ?_) (fun _ => ?_)
  · have h2 := St.inc (L' := hAr b ar :: own e 1 A ks.length c (irows ks) :: L0) IncQ hw'
    have h3 := join_any b e c A ar n emptyN ks kv w' hl hkl rfl hks h2
    rw [hj] at h3
    exact h3
  repeat' (first | (refine W1 ?_) | (refine W2 (fun hc => ?_) (fun hc => ?_)) | (intro _))
  exact TX.ret_tmp rfl rfl (fun w' hw => ⟨(), rfl, hw⟩)
theorem ar_choice {w0 : World} {L0 : List HP} (b e c : Nat) (A : Option Addr) (ar : List Nod) (n : Nod) (ks : List Int) (kv : Value) (w : World) (hk : n.kind = 5) (hl : ar.length < bigN) (hkl : ks.length ≤ bigL) (hks : ∀ k ∈ ks, 0 ≤ k ∧ k < (ar.length : Int)) (hw : St w0 (hAr b ar :: own e 1 A ks.length c (irows ks) :: L0) w) :
    Calls Tryd.prog 107 #[.pointer (some ⟨b, 0, none⟩), .agg (n.cells kv).toArray, .slice A ks.length c] w (RetA w0 L0 b (comeA ar n ks)) := by
  refine TC.calls (l := [.pointer (some ⟨b, 0, none⟩), .agg (n.cells kv).toArray, .slice A ks.length c]) (M := St w0 (hAr b ar :: own e 1 A ks.length c (irows ks) :: L0)) Tryd.func107 rfl Tryd.ntmps107 rfl hw ?_
  obtain ⟨r, hr⟩ : ∃ r, r = comeA ar n ks := ⟨_, rfl⟩
  have hj : joinA ar n setN0 (if n.kind = 4 then not0 ar ks else ks) = r := by rw [hr]; unfold comeA; rw [hk]; rfl
  rw [← hr]
  repeat' (first | (refine W1 ?_) | (refine W2 (fun hc => ?_) (fun hc => ?_)) | (intro _))
  refine T.callM (val := fun _ : Unit => .int .i64 r.2) (LL := fun _ => hAr b r.1 :: L0) rfl rfl (fun w' hw' => ?_) (fun _ => ?_)
  · have h2 := St.inc (L' := hAr b ar :: own e 1 A ks.length c (irows ks) :: L0) IncQ hw'
    have h3 := join_any b e c A ar n setN0 ks kv w' hl hkl rfl hks h2
    rw [hj] at h3
    exact h3
  repeat' (first | (refine W1 ?_) | (refine W2 (fun hc => ?_) (fun hc => ?_)) | (intro _))
  exact TX.ret_tmp rfl rfl (fun w' hw => ⟨(), rfl, hw⟩)

/-- which function puts a node there -/
def comeF (k : Int) : FuncId := if k = 4 then 106 else if k = 5 then 107 else 105
theorem come_any {w0 : World} {L0 : List HP} (b e c : Nat) (A : Option Addr) (ar : List Nod) (n : Nod) (ks : List Int) (kv : Value) (w : World) (hl : ar.length < bigN) (hkl : ks.length ≤ bigL) (hks : ∀ k ∈ ks, 0 ≤ k ∧ k < (ar.length : Int)) (hw : St w0 (hAr b ar :: own e 1 A ks.length c (irows ks) :: L0) w) :
    Calls Tryd.prog (comeF n.kind) #[.pointer (some ⟨b, 0, none⟩), .agg (n.cells kv).toArray, .slice A ks.length c] w (RetA w0 L0 b (comeA ar n ks)) := by
  unfold comeF
  by_cases h4 : n.kind = 4
  · rw [if_pos h4]
    exact ar_seq b e c A ar n ks kv w h4 hl hkl hks hw
  · rw [if_neg h4]
    by_cases h5 : n.kind = 5
    · rw [if_pos h5]
      exact ar_choice b e c A ar n ks kv w h5 hl hkl hks hw
    · rw [if_neg h5]
      have h := keep_any b e c A ar n ks kv w hl hw
      unfold comeA
      rw [if_neg h4, if_neg h5]
      exact h
/-- a function without captured values -/
def fnV (f : FuncId) : Value := .func (.func f) #[] #[]
def joinersV : Value := .agg #[fnV 105, fnV 105, fnV 105, fnV 105, fnV 106, fnV 107, fnV 105, fnV 105, fnV 105, fnV 105]
theorem joiners_any (w : World) : Calls Tryd.prog 94 #[] w (RetV w joinersV) := by
  refine TC.calls (l := []) Tryd.func94 rfl Tryd.ntmps94 rfl (St.start w) ?_
  repeat' (first | (apply T.ev_; exact rfl; apply Ev.build_arr (cs := #[fnV 105, fnV 105, fnV 105, fnV 105, fnV 106, fnV 107, fnV 105, fnV 105, fnV 105, fnV 105]); exact rfl; exact rfl) | (refine W1 ?_) | (refine W2 (fun hc => ?_) (fun hc => ?_)) | (intro _))
  refine TX.ret_gen (rs := [.cell 0 86]) (vs := [joinersV]) rfl (.cell rfl (blk_res AtA rfl) .nil) (fun w' hw => RetV.eq hw rfl)
end Go.Proofs.YtlhkkngpppcfoaaDoor

namespace Go.Bonsai
open Go Go.Sl Go.RowKit
theorem St.rows_arr {w0 w : World} {L : List HP} {rows : List (List Value)} {ar : List Nod} {i kc : Nat} {m : Nod} {K : Option Addr} (hw : St w0 L w) (ha : At L (hRows rows ar)) (hr : rows[i]? = some (m.cells (.slice K m.kids.length kc))) (hm : ar[i]? = some m) :
    Arr 1 (Old w) w K m.kids.length (irows m.kids) := by
  obtain ⟨e', K', c', hc, ho⟩ := (hRows_all (hw.at_all ha)).2 i _ m hr hm
  obtain ⟨rfl, _, _⟩ := cells_inj hc
  exact own.arr ho
theorem kindA_get {ar : List Nod} {i : Nat} {m : Nod} (h : ar[i]? = some m) : kindA ar (i : Int) = m.kind := by
  unfold kindA; rw [List.getD_eq_getElem?_getD, Int.toNat_natCast, h]; rfl
end Go.Bonsai
namespace Go.Proofs.YtlhkkngpppcfoaaDoor
open Go Go.Sl Go.RowKit Go.Bonsai
set_option linter.unusedVariables false
set_option linter.unusedSimpArgs false

theorem parts_plain {w0 : World} {L0 : List HP} (b c : Nat) (A : Option Addr) (ar : List Nod) (rows : List (List Value)) (node : Nat) (n : Nod) (K : Option Addr) (kc : Nat) (w : World) (hn : ar[node]? = some n) (hrow : rows[node]? = some (n.cells (.slice K n.kids.length kc))) (hk4 : n.kind ≠ 4) (hk5 : n.kind ≠ 5)
    (hw : St w0 (own 34 9 A ar.length c rows :: hRows rows ar :: blk b [.slice A ar.length c] 84 :: L0) w) :
    Calls Tryd.prog 108 #[.pointer (some ⟨b, 0, none⟩), .int .i64 node] w
      (fun e w' => ∃ x : Unit, e = .returned (.slice K n.kids.length kc) ∧ St w0 (own 34 9 A ar.length c rows :: hRows rows ar :: blk b [.slice A ar.length c] 84 :: L0) w') := by
  have hlt : node < ar.length := (List.getElem?_eq_some_iff.1 hn).1
  refine TC.callsM (l := [.pointer (some ⟨b, 0, none⟩), .int .i64 node]) (M := St w0 (own 34 9 A ar.length c rows :: hRows rows ar :: blk b [.slice A ar.length c] 84 :: L0)) Tryd.func108 rfl Tryd.ntmps108 rfl hw ?_
  have hA : A = some (A.getD default) := (St.own_arr hw .here).some_ (by omega)
  have h4 : (!decide (n.kind = 4)) = true := by simp [hk4]
  have h5 : (!decide (n.kind = 5)) = true := by simp [hk5]
  repeat' (first | (refine W1 ?_) | (refine W2 (fun hc => ?_) (fun hc => ?_)) | (intro _))
  refine TX.retM_tmp rfl rfl (fun w' hw => hw.push (H := marks []) Chg.refl trivial) (fun w' hw => ?_)
  exact ⟨(), rfl, St.inc IncQ hw⟩

set_option maxHeartbeats 4000000 in
theorem parts_open {w0 : World} {L0 : List HP} (b c : Nat) (A : Option Addr) (ar : List Nod) (rows : List (List Value)) (node : Nat) (n : Nod) (w : World) (hl : ar.length ≤ bigN) (hch : ChOk (chOf ar)) (hsh : ShapeN rows ar) (hn : ar[node]? = some n) (hkd : n.kind = 4 ∨ n.kind = 5)
    (hroom : (dfs (chOf ar) ar.length [(node : Int)]).length ≤ bigN)
    (hw : St w0 (own 34 9 A ar.length c rows :: hRows rows ar :: blk b [.slice A ar.length c] 84 :: L0) w) :
    Calls Tryd.prog 108 #[.pointer (some ⟨b, 0, none⟩), .int .i64 node] w
      (fun e w' => ∃ x : Option Addr × Nat, e = .returned (.slice x.1 (chO ar node).length x.2) ∧ St w0 (own 3 1 x.1 (chO ar node).length x.2 (irows (chO ar node)) :: own 34 9 A ar.length c rows :: hRows rows ar :: blk b [.slice A ar.length c] 84 :: L0) w') := by
  have hlt : node < ar.length := (List.getElem?_eq_some_iff.1 hn).1
  unfold bigN at hl hroom
  refine TC.callsM (l := [.pointer (some ⟨b, 0, none⟩), .int .i64 node]) (M := St w0 (own 34 9 A ar.length c rows :: hRows rows ar :: blk b [.slice A ar.length c] 84 :: L0)) Tryd.func108 rfl Tryd.ntmps108 rfl hw ?_
  have hA : A = some (A.getD default) := (St.own_arr hw .here).some_ (by omega)
  obtain ⟨K0, kc0, hrow0⟩ := hsh.2 node n hn
  obtain ⟨kd, hkd'⟩ : ∃ kd, n.kind = kd := ⟨_, rfl⟩
  have hR : chO ar node = openI ar kd ar.length [(node : Int)] := by
    unfold chO
    rw [kindA_get hn, hkd', if_pos (hkd' ▸ hkd), openI_cons hch (by omega) (by omega), kindA_get hn, hkd', if_pos rfl, openI_nil, List.append_nil]
  generalize chO ar node = R at *
  repeat' (first | (refine TC.hold 2 ?_) | (refine W1 ?_) | (refine W2 (fun hc => ?_) (fun hc => ?_)) | (intro _))
  rename_i b5
  refine ⟨TC.cutA (ι := Unit) (fun _ r => r) (fun _ => St w0 (blk b5 (n.cells (.slice K0 n.kids.length kc0)) 34 :: own 34 9 A ar.length c rows :: hRows rows ar :: blk b [.slice A ar.length c] 84 :: L0)) KpA ?_ (fun _ => ?_)⟩
  · rcases hkd with hkd | hkd
    · have h4 : (!decide (n.kind = 4)) = false := by simp [hkd]
      repeat' (first | (refine W1 ?_) | (refine W2 (fun hc => ?_) (fun hc => ?_)) | (intro _))
      exact TX.join () SubA (fun _ h => h)
    · have h4 : (!decide (n.kind = 4)) = true := by simp [hkd]
      have h5 : (!decide (n.kind = 5)) = false := by simp [hkd]
      repeat' (first | (refine W1 ?_) | (refine W2 (fun hc => ?_) (fun hc => ?_)) | (intro _))
      exact TX.join () SubA (fun _ h => h)
  repeat' (first | (refine W1 ?_) | (refine W2 (fun hc => ?_) (fun hc => ?_)) | (intro _))
  rename_i B b7
  refine TC.loopM (ι := (Option Addr × Nat) × List Int × List Int × List Deferred) ((none, 0), [(node : Int)], [], []) (fun k => k.2.2.2)
    (fun k r => (6, .slice k.1.1 k.2.2.1.length k.1.2) :: r)
    (fun k => St w0 (hBox b7 27 k.2.1 :: own 3 1 k.1.1 k.2.2.1.length k.1.2 (irows k.2.2.1) :: marks k.2.2.2 :: blk b5 (n.cells (.slice K0 n.kids.length kc0)) 34 :: own 34 9 A ar.length c rows :: hRows rows ar :: blk b [.slice A ar.length c] 84 :: L0))
    (fun k => (∀ x ∈ k.2.1, 0 ≤ x ∧ x < ar.length) ∧ k.2.2.1 ++ openI ar kd ar.length k.2.1.reverse = R ∧ k.2.2.1.length + (dfs (chOf ar) ar.length k.2.1.reverse).length ≤ 1466015503701)
    (fun k => (dfs (chOf ar) ar.length k.2.1.reverse).length) KpA SubA rfl ?_ ⟨by intro x hx; simp at hx; subst hx; omega, by rw [hR]; rfl, by simpa using hroom⟩ ?_
  · intro w' hw
    have h0 := (St.own_nil (e := 3) (sz := 1) hw).push (H := marks []) Chg.refl trivial
    have h1 := St.inc (L' := own 3 1 (some ⟨B, 0, none⟩) 1 1 (irows [(node : Int)]) :: blk b7 [.slice (some ⟨B, 0, none⟩) 1 1] 27 :: own 3 1 none 0 0 (irows []) :: marks [] :: blk b5 (n.cells (.slice K0 n.kids.length kc0)) 34 :: own 34 9 A ar.length c rows :: hRows rows ar :: blk b [.slice A ar.length c] 84 :: L0) IncQ h0
    exact hBox_mk (xs := [(node : Int)]) h1
  · rintro ⟨⟨A2, c2⟩, op, out, ds⟩ ⟨hop, he, hrm⟩
    simp only at hop he hrm ⊢
    refine TC.ex (fun w hw => hBox_open DelA hw) (fun p1 => ?_)
    rcases list_snoc op with rfl | ⟨init, i, rfl⟩
    · have hc1 : decide (0 < (([] : List Int).length : Int)) = false := by simp
      simp only [List.reverse_nil, openI_nil, List.append_nil] at he
      repeat' (first | (refine W1 ?_) | (refine W2 (fun hc => ?_) (fun hc => ?_)) | (intro _))
      refine TX.retM_tmp rfl rfl (fun w' hw => St.del (H := marks ds) DelA hw) (fun w' hw => ?_)
      rw [← he]
      exact ⟨(A2, c2), rfl, St.inc IncQ hw⟩
    · have hc1 : decide (0 < ((init.length + 1 : Nat) : Int)) = true := by simp
      have hi := hop i (by simp)
      obtain ⟨i, rfl⟩ : ∃ y : Nat, i = y := ⟨i.toNat, by omega⟩
      have hlti : i < ar.length := by omega
      have hm := List.getElem?_eq_getElem hlti
      obtain ⟨K, kc, hrow⟩ := hsh.2 i _ hm
      have hkids := (chOf_get hm).symm
      have hkA := kindA_get hm
      generalize ar[i] = m at *
      have hlast : (init ++ [(i : Int)])[init.length]? = some (i : Int) := by simp
      have hlen1 : (init ++ [(i : Int)]).length = init.length + 1 := by simp
      rw [List.reverse_append, List.reverse_cons, List.reverse_nil, List.nil_append, List.singleton_append, openI_cons hch (by omega) (by omega), hkA, hkids] at he
      rw [List.reverse_append, List.reverse_cons, List.reverse_nil, List.nil_append, List.singleton_append, dfs_cons hch (by omega) (by omega), hkids] at hrm
      simp only [List.length_append, List.length_cons] at hrm
      have hg1 := dfs_length_ge (ch := chOf ar) ar.length m.kids (by omega)
      have hg2 := dfs_length_ge (ch := chOf ar) ar.length init.reverse (by omega)
      rw [List.length_reverse] at hg2
      rw [hlen1]
      refine TC.fact (fun w hw => own.cap (hw.at_all At.here)) (fun hcap : init.length + 1 ≤ p1.2 => ?_)
      repeat' (first | (refine W1 ?_) | (refine W2 (fun hc => ?_) (fun hc => ?_)) | (intro _))
      refine T.ev_ rfl (Ev.slice_to (h := init.length) rfl rfl (by omega)) ?_
      have htk : (irows (init ++ [(i : Int)])).take init.length = irows init := by simp [irows]
      have hboxI : ∀ {w' : World} {L' : List HP}, St w0 (own 3 1 p1.1 (init.length + 1) p1.2 (irows (init ++ [(i : Int)])) :: blk b7 [.slice p1.1 init.length p1.2] 27 :: L') w' → St w0 (hBox b7 27 init :: L') w' := by
        intro w' L' hw
        have h1 := St.weakAt (H := own 3 1 p1.1 (init.length + 1) p1.2 (irows (init ++ [(i : Int)]))) (H' := own 3 1 p1.1 init.length p1.2 (irows init)) .here (fun S w h => htk ▸ own.take (Nat.le_succ _) h) hw
        exact hBox_mk h1
      have hsz : (dfs (chOf ar) ar.length (init ++ [(i : Int)]).reverse).length = (dfs (chOf ar) ar.length m.kids).length + (dfs (chOf ar) ar.length init.reverse).length + 1 := by
        rw [List.reverse_append, List.reverse_cons, List.reverse_nil, List.nil_append, List.singleton_append, dfs_cons hch (by omega) (by omega), hkids]
        simp
      by_cases hmk : m.kind = n.kind
      · have hmk1 : (!decide (m.kind = n.kind)) = false := by simp [hmk]
        rw [hmk, hkd', if_pos rfl] at he
        have hdec : (dfs (chOf ar) ar.length (init ++ m.kids.reverse).reverse).length < (dfs (chOf ar) ar.length (init ++ [(i : Int)]).reverse).length := by
          rw [hsz, List.reverse_append, List.reverse_reverse, dfs_append, List.length_append]
          omega
        have hop' : ∀ x ∈ init ++ m.kids.reverse, 0 ≤ x ∧ x < ar.length := by
          intro x hx
          rcases List.mem_append.1 hx with hx | hx
          · exact hop x (by simp [hx])
          · rw [List.mem_reverse, ← hkids] at hx
            have := hch i x hx
            omega
        repeat' (first | (refine W1 ?_) | (refine W2 (fun hc => ?_) (fun hc => ?_)) | (intro _))
        refine T.callR rfl rfl (fun w' hw' => backward_any (.slice K m.kids.length kc) w' rfl) (fun b6 _ => ?_)
        repeat' (first | (refine W1 ?_) | (refine W2 (fun hc => ?_) (fun hc => ?_)) | (intro _))
        refine TC.range2 (e1 := fun k => .int .i64 ((m.kids.length - 1 - k : Nat) : Int)) (e2 := fun k => .int .i64 (m.kids.getD (m.kids.length - 1 - k) 0)) (K := m.kids.length) rfl rfl rfl
          (fun k => hBox b7 27 (init ++ m.kids.reverse.take k) :: blk b6 [.slice K m.kids.length kc] 27 :: own 3 1 A2 out.length c2 (irows out) :: marks ds :: blk b5 (n.cells (.slice K0 n.kids.length kc0)) 34 :: own 34 9 A ar.length c rows :: hRows rows ar :: blk b [.slice A ar.length c] 84 :: L0) ?_ ?_ ?_ ?_
        · intro w' hw
          simp only [List.take_zero, List.append_nil]
          exact hboxI (St.inc IncQ hw)
        · intro l rec D W hY hW
          have := back1_any l b6 K kc 27 m.kids (fun k => obj l rec :: obj D (.deferred (some [])) :: hBox b7 27 (init ++ m.kids.reverse.take k) :: blk b6 [.slice K m.kids.length kc] 27 :: own 3 1 A2 out.length c2 (irows out) :: marks ds :: blk b5 (n.cells (.slice K0 n.kids.length kc0)) 34 :: own 34 9 A ar.length c rows :: hRows rows ar :: blk b [.slice A ar.length c] 84 :: L0) W (by unfold bigL; omega) (fun k => AtA) (fun k w hw => St.rows_arr hw AtA hrow hm) hY hW
          simpa using this
        · intro k hk l D r1 r2 R hR
          refine TCF.region ?_
          repeat' (first | (refine W1f ?_) | (intro _))
          refine ⟨fun a w hf hm => hR _ ?_ a w hf hm⟩
          refine TCF.block (TCF.region ?_)
          refine TF.ex (fun w hw => hBox_open DelA hw) (fun p2 => ?_)
          have hlk : (init ++ m.kids.reverse.take k).length = init.length + k := by simp; omega
          rw [hlk]
          have hstep : init ++ m.kids.reverse.take (k + 1) = (init ++ m.kids.reverse.take k) ++ [m.kids.getD (m.kids.length - 1 - k) 0] := by
            rw [List.take_succ_eq_append_getElem (by simpa using hk), List.append_assoc]
            congr 3
            rw [List.getElem_reverse, List.getD_eq_getElem?_getD, List.getElem?_eq_getElem (by omega)]
            rfl
          rw [hstep]
          generalize m.kids.getD (m.kids.length - 1 - k) 0 = kk at *
          generalize init ++ m.kids.reverse.take k = opk at *
          repeat' (first | (refine W1f ?_) | (intro _))
          refine TF.append (rows := irows opk) (news := irows [kk]) rfl rfl rfl DelA (fun w hw => St.own_arr hw AtA) (fun _ _ => irows_oneB _) (by unfold maxLen; omega) (by omega) (fun A6 c6 => ?_)
          repeat' (first | (refine W1f ?_) | (intro _))
          refine ⟨fun a w hf hm => ⟨rfl, ?_⟩⟩
          have h1 := St.inc (L' := own 3 1 A6 (init.length + k + 1) c6 (irows opk ++ irows [kk]) :: blk b7 [.slice A6 (init.length + k + 1) c6] 27 :: obj l r2 :: obj D (.deferred (some [])) :: blk b6 [.slice K m.kids.length kc] 27 :: own 3 1 A2 out.length c2 (irows out) :: marks ds :: blk b5 (n.cells (.slice K0 n.kids.length kc0)) 34 :: own 34 9 A ar.length c rows :: hRows rows ar :: blk b [.slice A ar.length c] 84 :: L0) IncQ hm
          rw [← irows_append, show init.length + k + 1 = (opk ++ [kk]).length by simp [hlk]] at h1
          exact St.inc IncQ (hBox_mk h1)
        · intro D
          repeat' (first | (refine W1 ?_) | (refine W2 (fun hc => ?_) (fun hc => ?_)) | (intro _))
          rw [List.take_of_length_le (by simp)]
          refine TX.roundM ((A2, c2), init ++ m.kids.reverse, out, { target := .collected D, args := #[] } :: ds) ⟨hop', ?_, ?_⟩ hdec rfl SubA (fun w' hw => ?_)
          · show out ++ openI ar kd ar.length (init ++ m.kids.reverse).reverse = R
            rw [List.reverse_append, List.reverse_reverse, openI_app]
            exact he
          · show out.length + (dfs (chOf ar) ar.length (init ++ m.kids.reverse).reverse).length ≤ 1466015503701
            omega
          have h0 := St.del (H := marks ds) DelA hw
          have h1 := St.del (H := obj D (.deferred (some []))) DelA h0
          have h2 := St.joinD (K := marks ({ target := .collected D, args := #[] } :: ds)) (fun S S' w h h' hd => marks_cons h h' hd) h1
          exact St.inc IncQ h2
      · have hmk1 : (!decide (m.kind = n.kind)) = true := by simp [hmk]
        rw [if_neg (by rw [← hkd']; exact hmk)] at he
        have e1 : irows out ++ irows [(i : Int)] = irows (out ++ [(i : Int)]) := by simp [irows]
        have e2 : out.length + 1 = (out ++ [(i : Int)]).length := by simp
        repeat' (first | (refine W1 ?_) | (refine W2 (fun hc => ?_) (fun hc => ?_)) | (intro _))
        refine T.append (rows := irows out) (news := irows [(i : Int)]) rfl rfl rfl DelA (fun w hw => St.own_arr hw AtA) (fun _ _ => irows_oneB _) (by unfold maxLen; omega) (by omega) (fun A3 c3 => ?_)
        rw [e1, e2]
        repeat' (first | (refine W1 ?_) | (refine W2 (fun hc => ?_) (fun hc => ?_)) | (intro _))
        refine TX.roundM ((A3, c3), init, out ++ [(i : Int)], ds) ⟨fun x hx => hop x (by simp [hx]), by rw [← he]; simp, ?_⟩ (by show (dfs (chOf ar) ar.length init.reverse).length < _; omega) rfl SubA (fun w' hw => ?_)
        · show (out ++ [(i : Int)]).length + (dfs (chOf ar) ar.length init.reverse).length ≤ 1466015503701
          rw [← e2]; omega
        · exact hboxI (St.inc IncQ hw)
end Go.Proofs.YtlhkkngpppcfoaaDoor

namespace Go.Sl
open Go.RowKit
end Go.Sl

namespace Go.Sl
theorem Sep.set {H : HP} {w : World} : ∀ {L : List HP} {i : Nat} {S S' : Nat → Prop}, i < L.length → Sep L S' w → H.on S w → (∀ b, S b → ¬ S' b) → Sep (L.set i H) (fun b => S b ∨ S' b) w
  | [], i, S, S', hi, _, _, _ => by simp at hi
  | H0 :: L, 0, S, S', hi, ⟨S1, h1, h2, h3⟩, hh, hd =>
    ⟨S, fun b hb => .inl hb, hh, h3.keep (fun b hb => ⟨.inr hb.1, fun hs => hd b hs hb.1⟩) (fun _ _ => rfl)⟩
  | H0 :: L, i + 1, S, S', hi, ⟨S1, h1, h2, h3⟩, hh, hd =>
    ⟨S1, fun b hb => .inr (h1 b hb), h2, (Sep.set (i := i) (by simpa using hi) h3 hh (fun b hb hb' => hd b hb hb'.1)).keep (fun b hb => by
      rcases hb with hb | hb
      · exact ⟨.inl hb, fun hs => hd b hb (h1 b hs)⟩
      · exact ⟨.inr hb.1, hb.2⟩) (fun _ _ => rfl)⟩
end Go.Sl
namespace Go.Bonsai
open Go Go.Sl Go.RowKit
theorem kidPs_set (r : List Value) (n : Nod) : ∀ (rows : List (List Value)) (ns : List Nod) (i : Nat), rows.length = ns.length → kidPs (rows.set i r) (ns.set i n) = (kidPs rows ns).set i (kidAt r n) := by
  intro rows
  induction rows with
  | nil => intro ns i h; cases ns with
    | nil => simp [kidPs]
    | cons n0 ns => simp at h
  | cons r0 rs ih => intro ns i h; cases ns with
    | nil => simp at h
    | cons n0 ns => cases i with
      | zero => simp only [List.set_cons_zero, kidPs]
      | succ i =>
        simp only [List.set_cons_succ, kidPs]
        rw [ih ns i (by simpa using h)]
theorem set_same {α : Type} {l : List α} {i : Nat} {x : α} (h : l[i]? = some x) : l.set i x = l := by
  obtain ⟨hi, he⟩ := List.getElem?_eq_some_iff.1 h
  rw [← he]
  simp
theorem kidPs_len : ∀ (rows : List (List Value)) (ns : List Nod), rows.length = ns.length → (kidPs rows ns).length = ns.length
  | [], [], _ => rfl
  | r0 :: rs, n0 :: ns, h => by simp only [kidPs, List.length_cons]; rw [kidPs_len rs ns (by simpa using h)]
/-- a node's kids put anew -/
theorem hRows_put {e c k i : Nat} {A : Option Addr} {rows : List (List Value)} {ns : List Nod} {n : Nod} {S S' : Nat → Prop} {w : World} (hi : i < ns.length) (hk : n.kids.length = k) (h : (own e 1 A k c (irows n.kids)).on S w) (h' : (hRows rows ns).on S' w) (hd : ∀ b, S b → ¬ S' b) :
    (hRows (rows.set i (n.cells (.slice A k c))) (ns.set i n)).on (fun b => S b ∨ S' b) w := by
  subst hk
  refine ⟨by simp [h'.1], ?_⟩
  rw [kidPs_set _ _ _ _ _ h'.1]
  exact Sep.set (by rw [kidPs_len _ _ h'.1]; exact hi) h'.2 ⟨e, A, c, rfl, h⟩ hd
theorem ShapeN.put {rows : List (List Value)} {ns : List Nod} {n : Nod} {i c : Nat} {A : Option Addr} (h : ShapeN rows ns) : ShapeN (rows.set i (n.cells (.slice A n.kids.length c))) (ns.set i n) := by
  refine ⟨by simp [h.1], fun j m hj => ?_⟩
  by_cases hij : i = j
  · subst hij
    have hi : i < ns.length := by have := (List.getElem?_eq_some_iff.1 hj).1; simpa using this
    rw [List.getElem?_set_self hi] at hj
    injection hj with hj
    subst hj
    exact ⟨A, c, List.getElem?_set_self (by rw [h.1]; exact hi)⟩
  · rw [List.getElem?_set_ne hij] at hj
    obtain ⟨K, kc, hr⟩ := h.2 j m hj
    exact ⟨K, kc, by rw [List.getElem?_set_ne hij]; exact hr⟩
end Go.Bonsai
namespace Go.Proofs.YtlhkkngpppcfoaaDoor
open Go Go.Sl Go.RowKit Go.Bonsai
set_option linter.unusedVariables false
set_option linter.unusedSimpArgs false

set_option maxHeartbeats 4000000 in
theorem artaken_any {w0 : World} {L0 : List HP} (b : Nat) (ar : List Nod) (node : Int) (w : World) (hl : ar.length ≤ bigN) (hch : ChOk (chOf ar)) (h0 : 0 ≤ node) (hn : node < ar.length) (hnd : ∀ x, (dfs (chOf ar) ar.length [node]).count x ≤ 1) (hw : St w0 (hAr b ar :: L0) w) :
    Calls Tryd.prog 95 #[.pointer (some ⟨b, 0, none⟩), .int .i64 node] w
      (fun e w' => ∃ x : Option Addr × Nat, e = .returned (.agg #[.slice x.1 (takenP ⟨opA ar, 0⟩ node).nodes.length x.2, .int .i64 (takenP ⟨opA ar, 0⟩ node).root]) ∧ St w0 (hNodes (.slice x.1 (takenP ⟨opA ar, 0⟩ node).nodes.length x.2) (takenP ⟨opA ar, 0⟩ node).nodes :: L0) w') := by
  have hlen' := hl
  unfold bigN at hlen'
  refine TC.calls (l := [.pointer (some ⟨b, 0, none⟩), .int .i64 node]) (M := St w0 (hAr b ar :: L0)) Tryd.func95 rfl Tryd.ntmps95 rfl hw ?_
  refine TC.ex (fun w hw => hAr_open .here hw) (fun p => ?_)
  obtain ⟨⟨A, c, rows0⟩, hsh0⟩ := p
  dsimp only at hsh0 ⊢
  have hcO := chO_ok hch
  have hallO := dfs_allO_len hch h0 hn hnd
  have hroom : ∀ (op out : List Int), out ++ dfs (revC (chO ar)) ar.length op.reverse = dfs (revC (chO ar)) ar.length [node] → out.length + op.length ≤ 1466015503701 := by
    intro op out he
    have h1 := dfs_length_ge (ch := revC (chO ar)) ar.length op.reverse (by omega)
    have h2 := congrArg List.length he
    rw [dfs_revC_length ar.length [node], List.length_append] at h2
    simp at h1
    omega
  repeat' (first | (refine W1 ?_) | (refine W2 (fun hc => ?_) (fun hc => ?_)) | (intro _))
  rename_i b4 B
  refine TC.loopA (ι := (Option Addr × Nat × Option Addr × Nat) × List Int × List Int × List (List Value) × List Nod) ((some ⟨B, 0, none⟩, 1, none, 0), [node], [], rows0, ar)
    (fun k r => (6, .slice k.1.1 k.2.1.length k.1.2.1) :: (5, .slice k.1.2.2.1 k.2.2.1.length k.1.2.2.2) :: r)
    (fun k => St w0 (own 3 1 k.1.2.2.1 k.2.2.1.length k.1.2.2.2 (irows k.2.2.1) :: own 3 1 k.1.1 k.2.1.length k.1.2.1 (irows k.2.1) :: own 34 9 A ar.length c k.2.2.2.1 :: hRows k.2.2.2.1 k.2.2.2.2 :: blk b [.slice A ar.length c] 84 :: blk b4 [.slice none 0 0, .int .i64 0] 24 :: L0))
    (fun k => (∀ x ∈ k.2.1, 0 ≤ x ∧ x < ar.length) ∧ k.2.2.1 ++ dfs (revC (chO ar)) ar.length k.2.1.reverse = dfs (revC (chO ar)) ar.length [node] ∧ Mod ar k.2.2.2.2 ∧ ShapeN k.2.2.2.1 k.2.2.2.2 ∧ ∀ (x : Nat) m, (x : Int) ∈ k.2.2.1 → k.2.2.2.2[x]? = some m → m.kids = chO ar x)
    (fun k => (dfs (revC (chO ar)) ar.length k.2.1.reverse).length) KpA SubA (fun w' hw => ?_) ⟨by intro x hx; simp at hx; subst hx; exact ⟨h0, hn⟩, rfl, Mod.refl ar, hsh0, by intro x m hx; simp at hx⟩ ?_
  · exact St.inc IncQ (St.own_nil (e := 3) (sz := 1) hw)
  rintro ⟨⟨A1, c1, A2, c2⟩, op, out, rows, ms⟩ ⟨hop, he, hMod, hsh, hdone⟩
  simp only at hop he hMod hsh hdone ⊢
  have hrm := hroom op out he
  have hml := hMod.len
  rcases list_snoc op with rfl | ⟨init, i, rfl⟩
  · have hc1 : decide (0 < (([] : List Int).length : Int)) = false := by simp
    simp only [List.reverse_nil, dfs_nil, List.append_nil] at he
    have hol : out.length ≤ ar.length := by
      rw [he, dfs_revC_length]; exact hallO
    have hP : out.reverse = dfsP (chO ar) ar.length [node] := by rw [he, show [node] = [node].reverse from rfl, dfs_rev]; rfl
    repeat' (first | (refine W1 ?_) | (refine W2 (fun hc => ?_) (fun hc => ?_)) | (intro _))
    refine T.callM (val := fun _ : Unit => .tuple #[]) (LL := fun _ => own 3 1 A2 out.length c2 (irows out.reverse) :: own 34 9 A ar.length c rows :: hRows rows ms :: blk b [.slice A ar.length c] 84 :: blk b4 [.slice none 0 0, .int .i64 0] 24 :: L0) rfl rfl (fun w' hw' => reverse_any A2 c2 out w' (by unfold bigL; omega) (St.inc IncQ hw')) (fun _ => ?_)
    have hlr : out.length = out.reverse.length := by simp
    rw [hlr] at hol ⊢
    have hmemO : ∀ x ∈ out.reverse, (0 ≤ x ∧ x < (ar.length : Int)) ∧ x ∈ out := by
      intro x hx
      refine ⟨?_, by simpa using hx⟩
      rw [hP, (dfsP_perm _ _ _).mem_iff] at hx
      exact dfs_mem hcO _ _ (by intro k hk; simp at hk; subst hk; exact ⟨h0, hn⟩) x hx
    have htk : takenP ⟨opA ar, 0⟩ node = ⟨takenGo (opA ar) 0 (List.replicate ar.length 0) out.reverse, out.reverse.length - 1⟩ := by
      unfold takenP behindP
      simp only
      rw [opA_len, show chOf (opA ar) = chO ar from funext fun k => chOf_opA ar k, ← hP]
    rw [htk]
    have hP2 : ∀ x : Nat, (x : Int) ∈ out → (x : Int) ∈ dfsP (chO ar) ar.length [node] := fun x hx => by rw [← hP]; simpa using hx
    clear htk hP he hop hlr
    generalize out.reverse = l at *
    have hm1 : 8 * ar.length ≤ 281474976710656 := by omega
    have hm2 : 96 * l.length ≤ 281474976710656 := by omega
    repeat' (first | (refine W1 ?_) | (refine W2 (fun hc => ?_) (fun hc => ?_)) | (intro _))
    rename_i BP BN
    refine TC.loopA (ι := (Option Addr × Nat) × List (List Value) × Nat × List Int × List Nod) ((some ⟨BN, 0, none⟩, l.length), [], 0, List.replicate ar.length 0, [])
      (fun k r => (9, .slice k.1.1 k.2.2.1 k.1.2) :: (68, .int .i64 k.2.2.1) :: r)
      (fun k => St w0 (own 34 9 k.1.1 k.2.2.1 k.1.2 k.2.1 :: hRows k.2.1 k.2.2.2.2 :: own 3 1 (some ⟨BP, 0, none⟩) ar.length ar.length (irows k.2.2.2.1) :: own 3 1 A2 l.length c2 (irows l) :: own 34 9 A ar.length c rows :: hRows rows ms :: blk b [.slice A ar.length c] 84 :: blk b4 [.slice none 0 0, .int .i64 0] 24 :: L0))
      (fun k => k.2.2.1 ≤ l.length ∧ k.2.2.2.1.length = ar.length ∧ k.2.2.2.2.length = k.2.2.1 ∧ k.2.2.2.2 ++ takenGo (opA ar) k.2.2.1 k.2.2.2.1 (l.drop k.2.2.1) = takenGo (opA ar) 0 (List.replicate ar.length 0) l)
      (fun k => l.length - k.2.2.1) KpA SubA ?_ ⟨by simp, by simp, by simp, by simp⟩ ?_
    · intro w' hw
      rw [irows_rep] at hw
      exact St.inc IncQ (St.rows_nil hw)
    rintro ⟨⟨A5, c5⟩, nrows, i, pl, no⟩ ⟨hi, hpl, hno, he⟩
    simp only at hi hpl hno he ⊢
    by_cases hlt : i < l.length
    · have hck : decide ((i : Int) < (l.length : Int)) = true := by simp [hlt]
      have hlk : l[i]? = some l[i] := List.getElem?_eq_getElem hlt
      have hd : l.drop i = l[i] :: l.drop (i + 1) := List.drop_eq_getElem_cons hlt
      have hmx := hmemO _ (List.getElem_mem hlt)
      rw [hd, takenGo] at he
      generalize l[i] = x at *
      obtain ⟨x, rfl⟩ : ∃ y : Nat, x = y := ⟨x.toNat, by omega⟩
      have hx : x < ms.length := by omega
      have hms : ms[x]? = some ms[x] := List.getElem?_eq_getElem hx
      obtain ⟨K, kc, hrow⟩ := hsh.2 x _ hms
      have hko := hdone x _ hmx.2 hms
      have hop := opA_at hMod hms hko
      have hkb : ∀ y ∈ ms[x].kids, 0 ≤ y ∧ y < (ar.length : Int) := fun y hy => by
        rw [hko] at hy
        have := hcO x y hy
        omega
      have hkl : ms[x].kids.length ≤ ar.length := by
        rw [hko]
        have hxm := (dfsP_perm (chO ar) ar.length [node]).mem_iff.1 (by have := hmx.2; exact hP2 x this)
        have h1 := dfs_len_le hcO ar.length ar.length [node] (by intro k hk; simp at hk; subst hk; exact ⟨h0, hn⟩) (Nat.le_refl _) x hxm
        rw [dfs_cons hcO (by omega) (by omega), dfs_nil, List.append_nil, List.length_cons] at h1
        have h2 := dfs_length_ge (ch := chO ar) ar.length (chO ar x) (by omega)
        omega
      simp only [Int.toNat_natCast, List.getD_eq_getElem?_getD, hop, Option.getD_some] at he
      generalize ms[x] = n at *
      refine TC.fact (φ := A = some (A.getD default)) (fun w hw => (St.own_arr (A := A) (n := ar.length) (c := c) (rows := rows) hw AtA).some_ (by omega)) (fun hA => ?_)
      have hpx : pl[x]? = some pl[x] := List.getElem?_eq_getElem (by omega)
      repeat' (first | (refine W1 ?_) | (refine W2 (fun hc => ?_) (fun hc => ?_)) | (intro _))
      refine T.storeA (i := x) (o := 0) (r := [.int .i64 pl[x]]) rfl rfl rfl rfl rfl rfl UpdA (by omega) (irows_get hpx) (by simp) ?_
      have e1 : (irows pl).set x (splice [.int .i64 pl[x]] 0 [.int .i64 i]) = irows (pl.set x i) := (irows_set pl x i).symm
      rw [e1]
      repeat' (first | (refine W1 ?_) | (refine W2 (fun hc => ?_) (fun hc => ?_)) | (intro _))
      rename_i b12
      obtain ⟨f, hf⟩ : ∃ f : Int → Int, f = fun y : Int => (pl.set x (i : Int))[y.toNat]?.getD 0 := ⟨_, rfl⟩
      rw [← hf] at he
      have hplx : (pl.set x (i : Int)).length = ar.length := by simp [hpl]
      have hfy : ∀ y : Nat, y < ar.length → (pl.set x (i : Int))[y]? = some (f y) := by
        intro y hy
        rw [hf]
        simp only [Int.toNat_natCast]
        rw [List.getElem?_eq_getElem (by rw [hplx]; exact hy)]
        rfl
      generalize pl.set x (i : Int) = plx at *
      refine TC.loopA (ι := Nat × Option Addr × Nat) (0, none, 0) (fun k r => (13, .slice k.2.1 k.1 k.2.2) :: (87, .int .i64 k.1) :: r)
        (fun k => St w0 (own 3 1 k.2.1 k.1 k.2.2 (irows ((n.kids.take k.1).map f)) :: blk b12 (n.cells (.slice K n.kids.length kc)) 34 :: own 34 9 A5 i c5 nrows :: hRows nrows no :: own 3 1 (some ⟨BP, 0, none⟩) ar.length ar.length (irows plx) :: own 3 1 A2 l.length c2 (irows l) :: own 34 9 A ar.length c rows :: hRows rows ms :: blk b [.slice A ar.length c] 84 :: blk b4 [.slice none 0 0, .int .i64 0] 24 :: L0))
        (fun k => k.1 ≤ n.kids.length) (fun k => n.kids.length - k.1) KpA SubA (fun w' hw => St.own_nil hw) (Nat.zero_le _) ?_
      rintro ⟨j, A6, c6⟩ hj
      simp only at hj ⊢
      by_cases hjl : j < n.kids.length
      · have hcj : decide ((j : Int) < (n.kids.length : Int)) = true := by simp [hjl]
        have hjk : n.kids[j]? = some n.kids[j] := List.getElem?_eq_getElem hjl
        have htk : n.kids.take (j + 1) = n.kids.take j ++ [n.kids[j]] := List.take_succ_eq_append_getElem hjl
        have hy0 := hkb _ (List.getElem_mem hjl)
        generalize n.kids[j] = y at *
        obtain ⟨y, rfl⟩ : ∃ z : Nat, y = z := ⟨y.toNat, by omega⟩
        have hyl : y < ar.length := by omega
        have hyp := hfy y hyl
        refine TC.fact (φ := K = some (K.getD default)) (fun w hw => (St.rows_arr (kc := kc) hw AtA hrow hms).some_ (by omega)) (fun hK => ?_)
        repeat' (first | (apply T.ev_; exact rfl; apply Ev.cell0; exact rfl; exact rfl; exact fun w hw => St.rows_arr hw AtA hrow hms; exact irows_get hjk; exact rfl) | (refine W1 ?_) | (refine W2 (fun hc => ?_) (fun hc => ?_)) | (intro _))
        refine T.append (rows := irows ((n.kids.take j).map f)) (news := irows [f y]) rfl rfl rfl DelA (fun w hw => St.own_arr hw AtA) (fun _ _ => irows_oneB _) (by unfold maxLen; omega) (by omega) (fun A7 c7 => ?_)
        have e3 : irows ((n.kids.take j).map f) ++ irows [f y] = irows ((n.kids.take (j + 1)).map f) := by rw [htk]; simp [irows]
        rw [e3]
        repeat' (first | (refine W1 ?_) | (refine W2 (fun hc => ?_) (fun hc => ?_)) | (intro _))
        exact TX.round (j + 1, A7, c7) hjl (show n.kids.length - (j + 1) < n.kids.length - j by omega) SubA (fun w' hw => St.inc IncQ hw)
      · have hcj : decide ((j : Int) < (n.kids.length : Int)) = false := by simp; omega
        obtain rfl : j = n.kids.length := by omega
        rw [List.take_of_length_le (Nat.le_refl _)]
        repeat' (first | (refine W1 ?_) | (refine W2 (fun hc => ?_) (fun hc => ?_)) | (intro _))
        rw [show splice (n.cells (.slice K n.kids.length kc)) (0 + 8) [.slice A6 n.kids.length c6] = ({ n with kids := n.kids.map f } : Nod).cells (.slice A6 n.kids.length c6) from rfl]
        generalize hn2 : ({ n with kids := n.kids.map f } : Nod) = n2 at *
        have hk2 : n.kids.map f = n2.kids := by rw [← hn2]
        have hk3 : n2.kids.length = n.kids.length := by rw [← hk2]; simp
        rw [hk2]
        refine T.append (rows := nrows) (news := [n2.cells (.slice A6 n.kids.length c6)]) rfl rfl rfl DelA (fun w hw => St.own_arr hw AtA) (fun _ _ r hr => by simp at hr; subst hr; rfl) (by unfold maxLen; omega) (by omega) (fun A8 c8 => ?_)
        repeat' (first | (refine W1 ?_) | (refine W2 (fun hc => ?_) (fun hc => ?_)) | (intro _))
        refine TX.round ((A8, c8), nrows ++ [n2.cells (.slice A6 n.kids.length c6)], i + 1, plx, no ++ [n2]) ⟨hlt, hplx, by simp [hno], by rw [List.append_assoc]; exact he⟩ (show l.length - (i + 1) < l.length - i by omega) SubA (fun w' hw => ?_)
        have g1 := St.inc (L' := own 3 1 A6 n.kids.length c6 (irows n2.kids) :: hRows nrows no :: own 34 9 A8 (i + 1) c8 (nrows ++ [n2.cells (.slice A6 n.kids.length c6)]) :: own 3 1 (some ⟨BP, 0, none⟩) ar.length ar.length (irows plx) :: own 3 1 A2 l.length c2 (irows l) :: own 34 9 A ar.length c rows :: hRows rows ms :: blk b [.slice A ar.length c] 84 :: blk b4 [.slice none 0 0, .int .i64 0] 24 :: L0) IncQ hw
        have g2 := St.joinX (K := hRows (nrows ++ [n2.cells (.slice A6 n.kids.length c6)]) (no ++ [n2])) (fun S S' w h h' hd => hRows_snoc hk3 h h' hd) g1
        exact St.inc IncQ g2
    · have hck : decide ((i : Int) < (l.length : Int)) = false := by simp; omega
      have hd : l.drop i = [] := List.drop_of_length_le (by omega)
      rw [hd, takenGo, List.append_nil] at he
      obtain rfl : i = l.length := by omega
      repeat' (first | (refine W1 ?_) | (refine W2 (fun hc => ?_) (fun hc => ?_)) | (intro _))
      refine TX.ret_gen (rs := [.cell 4 24]) (vs := [.agg #[.slice A5 l.length c5, .int .i64 ((l.length : Int) - 1)]]) rfl (.cell rfl (blk_res (cs := [.slice A5 l.length c5, .int .i64 ((l.length : Int) - 1)]) AtA rfl) .nil) (fun w' hw => ?_)
      have h1 := St.inc (L' := own 34 9 A5 l.length c5 nrows :: hRows nrows no :: L0) IncQ hw
      rw [← hno] at h1
      have h2 := St.joinX (K := hNodes (.slice A5 no.length c5) no) (fun S S' w h h' hd => hNodes_join h h' hd) h1
      rw [← he]
      exact ⟨(A5, c5), by rw [hno]; rfl, h2⟩
  · have hc1 : decide (0 < ((init.length + 1 : Nat) : Int)) = true := by simp
    have hi := hop i (by simp)
    obtain ⟨i, rfl⟩ : ∃ y : Nat, i = y := ⟨i.toNat, by omega⟩
    have hlt : i < ms.length := by omega
    have hm := List.getElem?_eq_getElem hlt
    obtain ⟨K, kc, hrow⟩ := hsh.2 i _ hm
    generalize ms[i] = m at *
    have hlast : (init ++ [(i : Int)])[init.length]? = some (i : Int) := by simp
    have hlen1 : (init ++ [(i : Int)]).length = init.length + 1 := by simp
    have hiO : (i : Int) ∈ dfs (chO ar) ar.length [node] := by
      have h1 : (i : Int) ∈ dfs (revC (chO ar)) ar.length [node] := by
        rw [← he, List.reverse_append, List.reverse_cons, List.reverse_nil, List.nil_append, List.singleton_append, dfs_cons hcO.rev (by omega) (by omega)]
        simp
      have h2 := dfs_rev (chO ar) ar.length [node]
      rw [show [node].reverse = [node] from rfl] at h2
      have h3 : (i : Int) ∈ dfsP (chO ar) ar.length [node] := by rw [← h2]; simpa using h1
      exact (dfsP_perm _ _ _).mem_iff.1 h3
    have hroomI := Mod.room hch hMod h0 hn hnd hiO
    have he' : (out ++ [(i : Int)]) ++ dfs (revC (chO ar)) ar.length (init ++ chO ar i).reverse = dfs (revC (chO ar)) ar.length [node] := by
      rw [← he, List.reverse_append, List.reverse_append, List.reverse_cons, List.reverse_nil, List.nil_append, List.singleton_append, dfs_cons hcO.rev (by omega) (by omega), dfs_append, show revC (chO ar) i = (chO ar i).reverse from rfl]
      simp
    have hrm' := hroom _ _ he'
    simp only [List.length_append, List.length_cons, List.length_nil] at hrm'
    have hdec : (dfs (revC (chO ar)) ar.length (init ++ chO ar i).reverse).length < (dfs (revC (chO ar)) ar.length (init ++ [(i : Int)]).reverse).length := by
      have h1 := congrArg List.length he
      have h2 := congrArg List.length he'
      simp only [List.length_append, List.length_cons, List.length_nil] at h1 h2
      omega
    have hop' : ∀ x ∈ init ++ chO ar i, 0 ≤ x ∧ x < ar.length := by
      intro x hx
      rcases List.mem_append.1 hx with hx | hx
      · exact hop x (by simp [hx])
      · have := hcO i x hx
        omega
    rw [hlen1] at hrm ⊢
    refine TC.fact (φ := A = some (A.getD default)) (fun w hw => (St.own_arr hw AtA).some_ (by omega)) (fun hA => ?_)
    refine TC.fact (fun w hw => own.cap (hw.at_all AtA)) (fun hcap : init.length + 1 ≤ c1 => ?_)
    have hms' := hMod.set hm
    repeat' (first | (refine TC.holdR 5 ?_) | (refine W1 ?_) | (refine W2 (fun hc => ?_) (fun hc => ?_)) | (intro _))
    refine ⟨TC.cutA (ι := Option Addr × Nat) (fun _ r => r) (fun k => St w0 (own 3 1 A2 out.length c2 (irows out) :: own 3 1 A1 (init.length + 1) c1 (irows (init ++ [(i : Int)])) :: own 34 9 A ar.length c (rows.set i (({ m with kids := chO ar i } : Nod).cells (.slice k.1 (chO ar i).length k.2))) :: hRows (rows.set i (({ m with kids := chO ar i } : Nod).cells (.slice k.1 (chO ar i).length k.2))) (ms.set i { m with kids := chO ar i }) :: blk b [.slice A ar.length c] 84 :: blk b4 [.slice none 0 0, .int .i64 0] 24 :: L0)) KpA ?_ (fun k => ?_)⟩
    · by_cases hk : m.kind = 4 ∨ m.kind = 5
      · have hcO2 : chO ms i = chO ar i := by
          rcases hMod.chO hch i with h | h
          · exact h
          · rw [← hMod.kind, kindA_get hm] at h
            exact absurd hk h
        have hcall : ∀ w', St w0 (own 3 1 A2 out.length c2 (irows out) :: own 3 1 A1 (init.length + 1) c1 (irows (init ++ [(i : Int)])) :: own 34 9 A ar.length c rows :: hRows rows ms :: blk b [.slice A ar.length c] 84 :: blk b4 [.slice none 0 0, .int .i64 0] 24 :: L0) w' →
            Calls Tryd.prog 108 #[.pointer (some ⟨b, 0, none⟩), .int .i64 i] w' (fun e w'' => ∃ x : Option Addr × Nat, e = .returned (.slice x.1 (chO ar i).length x.2) ∧ St w0 (own 3 1 x.1 (chO ar i).length x.2 (irows (chO ar i)) :: own 3 1 A2 out.length c2 (irows out) :: own 3 1 A1 (init.length + 1) c1 (irows (init ++ [(i : Int)])) :: own 34 9 A ar.length c rows :: hRows rows ms :: blk b [.slice A ar.length c] 84 :: blk b4 [.slice none 0 0, .int .i64 0] 24 :: L0) w'') := by
          intro w' hw'
          have h1 : St w0 (own 34 9 A ms.length c rows :: hRows rows ms :: blk b [.slice A ms.length c] 84 :: own 3 1 A2 out.length c2 (irows out) :: own 3 1 A1 (init.length + 1) c1 (irows (init ++ [(i : Int)])) :: blk b4 [.slice none 0 0, .int .i64 0] 24 :: L0) w' := by
            rw [hml]; exact St.inc IncQ hw'
          have h2 := parts_open b c A ms rows i m w' (by rw [hml]; exact hl) (Mod.chOk hch hMod) hsh hm hk (by unfold bigN; omega) h1
          rw [hml, hcO2] at h2
          refine h2.mono ?_
          rintro e w'' ⟨x, hx, hs⟩
          exact ⟨x, hx, St.inc IncQ hs⟩
        generalize hcK : chO ar i = ks at *
        repeat' (first | (refine W1 ?_) | (refine W2 (fun hc => ?_) (fun hc => ?_)) | (intro _))
        refine TL.kcall rfl rfl DropA (Cl.callM (val := fun x : Option Addr × Nat => .slice x.1 ks.length x.2) rfl hcall) (fun _ w h => h.drop 1) (fun x => ?_)
        repeat' (first | (refine W1 ?_) | (refine W2 (fun hc => ?_) (fun hc => ?_)) | (intro _))
        apply TL.loudN
        exact rfl
        refine Ac.storeA (i := i) (o := 8) (r := m.cells (.slice K m.kids.length kc)) rfl rfl rfl rfl rfl rfl UpdA (by omega) hrow (by simp)
        intro _
        rw [show splice (m.cells (.slice K m.kids.length kc)) 8 [.slice x.1 ks.length x.2] = ({ m with kids := ks } : Nod).cells (.slice x.1 ks.length x.2) from rfl]
        repeat' (first | (refine W1 ?_) | (refine W2 (fun hc => ?_) (fun hc => ?_)) | (intro _))
        refine TX.join (x.1, x.2) SubA (fun w' hw => ?_)
        have g1 := St.inc (L' := own 3 1 x.1 ks.length x.2 (irows ks) :: hRows rows ms :: own 3 1 A2 out.length c2 (irows out) :: own 3 1 A1 (init.length + 1) c1 (irows (init ++ [(i : Int)])) :: own 34 9 A ar.length c (rows.set i (({ m with kids := ks } : Nod).cells (.slice x.1 ks.length x.2))) :: blk b [.slice A ar.length c] 84 :: blk b4 [.slice none 0 0, .int .i64 0] 24 :: L0) IncQ hw
        have g2 := St.joinX (K := hRows (rows.set i (({ m with kids := ks } : Nod).cells (.slice x.1 ks.length x.2))) (ms.set i { m with kids := ks })) (fun S S' w h h' hd => hRows_put (n := { m with kids := ks }) hlt rfl h h' hd) g1
        exact St.inc IncQ g2
      · have h4 : m.kind ≠ 4 := fun h => hk (.inl h)
        have h5 : m.kind ≠ 5 := fun h => hk (.inr h)
        have hkk := hMod.chO_plain hm h4 h5
        have hcall : ∀ w', St w0 (own 3 1 A2 out.length c2 (irows out) :: own 3 1 A1 (init.length + 1) c1 (irows (init ++ [(i : Int)])) :: own 34 9 A ar.length c rows :: hRows rows ms :: blk b [.slice A ar.length c] 84 :: blk b4 [.slice none 0 0, .int .i64 0] 24 :: L0) w' →
            Calls Tryd.prog 108 #[.pointer (some ⟨b, 0, none⟩), .int .i64 i] w' (fun e w'' => ∃ x : Unit, e = .returned (.slice K m.kids.length kc) ∧ St w0 (own 3 1 A2 out.length c2 (irows out) :: own 3 1 A1 (init.length + 1) c1 (irows (init ++ [(i : Int)])) :: own 34 9 A ar.length c rows :: hRows rows ms :: blk b [.slice A ar.length c] 84 :: blk b4 [.slice none 0 0, .int .i64 0] 24 :: L0) w'') := by
          intro w' hw'
          have h1 : St w0 (own 34 9 A ms.length c rows :: hRows rows ms :: blk b [.slice A ms.length c] 84 :: own 3 1 A2 out.length c2 (irows out) :: own 3 1 A1 (init.length + 1) c1 (irows (init ++ [(i : Int)])) :: blk b4 [.slice none 0 0, .int .i64 0] 24 :: L0) w' := by
            rw [hml]; exact St.inc IncQ hw'
          have h2 := parts_plain b c A ms rows i m K kc w' hm hrow h4 h5 h1
          rw [hml] at h2
          refine h2.mono ?_
          rintro e w'' ⟨x, hx, hs⟩
          exact ⟨x, hx, St.inc IncQ hs⟩
        repeat' (first | (refine W1 ?_) | (refine W2 (fun hc => ?_) (fun hc => ?_)) | (intro _))
        refine TL.kcall rfl rfl DropA (Cl.callM (val := fun x : Unit => .slice K m.kids.length kc) rfl hcall) (fun _ w h => h) (fun x => ?_)
        repeat' (first | (refine W1 ?_) | (refine W2 (fun hc => ?_) (fun hc => ?_)) | (intro _))
        apply TL.loudN
        exact rfl
        refine Ac.storeA (i := i) (o := 8) (r := m.cells (.slice K m.kids.length kc)) rfl rfl rfl rfl rfl rfl UpdA (by omega) hrow (by simp)
        intro _
        rw [show splice (m.cells (.slice K m.kids.length kc)) 8 [.slice K m.kids.length kc] = m.cells (.slice K m.kids.length kc) from rfl, set_same hrow]
        repeat' (first | (refine W1 ?_) | (refine W2 (fun hc => ?_) (fun hc => ?_)) | (intro _))
        refine TX.join (K, kc) SubA (fun w' hw => ?_)
        rw [← hkk]
        show St w0 (own 3 1 A2 out.length c2 (irows out) :: own 3 1 A1 (init.length + 1) c1 (irows (init ++ [(i : Int)])) :: own 34 9 A ar.length c (rows.set i (m.cells (.slice K m.kids.length kc))) :: hRows (rows.set i (m.cells (.slice K m.kids.length kc))) (ms.set i m) :: blk b [.slice A ar.length c] 84 :: blk b4 [.slice none 0 0, .int .i64 0] 24 :: L0) w'
        rw [set_same hrow, set_same hm]
        exact hw
    · obtain ⟨K', kc'⟩ := k
      dsimp only
      have hm' : (ms.set i { m with kids := chO ar (i : Int) })[i]? = some { m with kids := chO ar (i : Int) } := List.getElem?_set_self hlt
      have hrow' : (rows.set i (({ m with kids := chO ar (i : Int) } : Nod).cells (.slice K' (chO ar i).length kc')))[i]? = some (({ m with kids := chO ar (i : Int) } : Nod).cells (.slice K' (chO ar i).length kc')) := List.getElem?_set_self (by rw [hsh.1]; exact hlt)
      have hsh' := hsh.put (n := { m with kids := chO ar (i : Int) }) (i := i) (A := K') (c := kc')
      have hdone' : ∀ (x : Nat) m', (x : Int) ∈ out ++ [(i : Int)] → (ms.set i { m with kids := chO ar (i : Int) })[x]? = some m' → m'.kids = chO ar x := by
        intro x m' hx hxm
        by_cases hxi : i = x
        · subst hxi
          rw [hm'] at hxm
          injection hxm with hxm
          rw [← hxm]
        · rw [List.getElem?_set_ne hxi] at hxm
          rcases List.mem_append.1 hx with hx | hx
          · exact hdone x m' hx hxm
          · simp at hx; omega
      have hml' := hms'.len
      simp only at hsh'
      have hout : out.length + 1 = (out ++ [(i : Int)]).length := by simp
      have hout2 : irows out ++ irows [(i : Int)] = irows (out ++ [(i : Int)]) := by simp [irows]
      have hop2 : init.length + (chO ar (i : Int)).length = (init ++ chO ar (i : Int)).length := by simp
      have hop3 : irows init ++ irows (chO ar (i : Int)) = irows (init ++ chO ar (i : Int)) := by simp [irows]
      generalize chO ar (i : Int) = ks at *
      generalize hm2 : ({ m with kids := ks } : Nod) = m2 at *
      have hks : m2.kids = ks := by rw [← hm2]
      generalize rows.set i (m2.cells (.slice K' ks.length kc')) = rows' at *
      generalize ms.set i m2 = ms' at *
      have htk : (irows (init ++ [(i : Int)])).take init.length = irows init := by simp [irows]
      have hrd : ∀ w {L : List HP}, St w0 L w → At L (hRows rows' ms') → Arr 1 (fun b => b < w.heap.size) w K' ks.length (irows ks) := by
        intro w L hw ha
        have := St.rows_arr hw ha (i := i) (m := m2) (kc := kc') (K := K') (by rw [hks]; exact hrow') hm'
        rw [hks] at this
        exact this
      repeat' (first | (apply TL.pure_; exact rfl; exact rfl; apply Ev.slice_to (h := init.length); exact rfl; exact rfl; omega) | (refine W1 ?_) | (refine W2 (fun hc => ?_) (fun hc => ?_)) | (intro _))
      refine TL.sub (fun w hw => St.weakAt (H' := own 3 1 A1 init.length c1 (irows init)) (.there .here) (fun S w h => htk ▸ own.take (Nat.le_succ _) h) hw) ?_
      apply TL.loud
      exact rfl
      exact rfl
      refine Ac.append (rows := irows init) (news := irows ks) rfl rfl DelA (fun w hw => hrd w hw AtA) (fun _ _ => irows_oneB _) (by unfold maxLen; omega) (by omega)
      rintro ⟨A4, c4⟩
      dsimp only
      repeat' (first | (refine W1 ?_) | (refine W2 (fun hc => ?_) (fun hc => ?_)) | (intro _))
      refine T.append (rows := irows out) (news := irows [(i : Int)]) rfl rfl rfl DelA (fun w hw => St.own_arr hw AtA) (fun _ _ => irows_oneB _) (by unfold maxLen; omega) (by omega) (fun A3 c3 => ?_)
      rw [hout, hout2, hop2, hop3]
      repeat' (first | (refine W1 ?_) | (refine W2 (fun hc => ?_) (fun hc => ?_)) | (intro _))
      exact TX.round ((A4, c4, A3, c3), init ++ ks, out ++ [(i : Int)], rows', ms') ⟨hop', he', hms', hsh', hdone'⟩ hdec SubA (fun w' h => St.inc IncQ h)
end Go.Proofs.YtlhkkngpppcfoaaDoor

namespace Go.Sl
open Go.RowKit
section
variable {P : Program} {Q : Exit → Act → World → Prop} {n : FD} {s : Sg} {M : World → Prop} {w0 : World} {L : List HP} {ty : TypeId}
/-- a drawn region whose base condition is named -/
theorem TC.lexC {id : Nat} {l : List Oper} (C : World → Prop) (ovr : List (Nat × Kd)) (hm : P.follows .mixedOrders = true) (hok : lexOk l.toArray (kds l ovr) = true) (k : TL P C l.toArray (kds l ovr) Q 0 l n s (St w0 L)) : TC P (.region id l.toArray true) Q n s (St w0 L) := by
  refine ⟨fun a w hf hw => wp_region_lex (C := C) hm hok ?_⟩
  have := k.go a w.drew hf hw.drew
  rw [wpLexL_eq l 0 (by simp)] at this
  rw [List.range_eq_range']
  simpa using this
theorem Cl.callFM {ι : Sort _} {val : ι → Value} {LL : ι → List HP} {f : FuncId} {x : Nat} {xs : List Operand} {vs cap : List Value} {tys : Array TypeId} (hf' : CF P f) (hx : lk s x = some (.func (.func f) #[] cap.toArray)) (hxs : evs s xs = some vs)
    (h : ∀ w, St w0 L w → Calls P f (vs ++ cap).toArray w (fun e w' => ∃ x, e = .returned (val x) ∧ St w0 (LL x) w')) :
    Cl P n s (St w0 L) (.call { callee := .value (.tmp x), args := xs.toArray, argTypes := tys }) ty val (fun x => St w0 (LL x)) :=
  ⟨f, (vs ++ cap).toArray, fun a w o ho _ hf _ => op_callF hx hxs ho hf, h⟩
end
end Go.Sl
namespace Go.Bonsai
open Go Go.Sl Go.RowKit
theorem MInv.last {t : Tre} (hR : RightT t) {ar : List Nod} {pl : List Int} (h : MInv t t.nodes.length ar pl) :
    (0 ≤ pl.getD t.root.toNat 0 ∧ pl.getD t.root.toNat 0 < ar.length) ∧ foOf ar ar.length [pl.getD t.root.toNat 0] = (foT t).nrm ∧ ∀ x, (dfs (chOf ar) ar.length [pl.getD t.root.toNat 0]).count x ≤ 1 := by
  have h0 := hR.root
  obtain ⟨r, hr⟩ : ∃ r : Nat, t.root = r := ⟨t.root.toNat, by omega⟩
  have hd := h.den r (by omega)
  rw [hr, Int.toNat_natCast]
  refine ⟨⟨hd.pos, hd.lt⟩, ?_, fun x => ?_⟩
  · rw [hd.fo, foT, hr]
  · have hm : (r : Int) ∈ unC t t.nodes.length := by
      have h1 := unC_count t t.nodes.length (r : Int)
      have hc := hR.count r (by omega)
      rw [if_pos hr.symm] at hc
      rw [List.take_of_length_le (Nat.le_refl _), if_pos ⟨by omega, by omega, List.count_eq_zero.1 hc⟩] at h1
      exact List.count_pos_iff.1 (by omega)
    have hs : [pl.getD r 0].Sublist ((unC t t.nodes.length).map fun k => pl.getD k.toNat 0) := List.singleton_sublist.2 (List.mem_map.2 ⟨r, hm, by rw [Int.toNat_natCast]⟩)
    exact Nat.le_trans (dfs_sub_count hs x) (h.nd x)
theorem kind_lt {n : Nod} {c : Int} (h : fits n c = true) : 0 ≤ n.kind ∧ n.kind < 10 := by
  unfold fits at h
  repeat' split at h
  all_goals first | omega | (simp at h)
end Go.Bonsai
namespace Go.Proofs.YtlhkkngpppcfoaaDoor
open Go Go.Sl Go.RowKit Go.Bonsai
set_option linter.unusedVariables false
set_option linter.unusedSimpArgs false

def joinersL : List Value := [fnV 105, fnV 105, fnV 105, fnV 105, fnV 106, fnV 107, fnV 105, fnV 105, fnV 105, fnV 105]
theorem joiners_get {k : Nat} (h : k < 10) : joinersL[0 + k * 1]? = some (.func (.func (comeF (k : Int))) #[] #[]) := by
  match k, h with
  | 0, _ => rfl
  | 1, _ => rfl
  | 2, _ => rfl
  | 3, _ => rfl
  | 4, _ => rfl
  | 5, _ => rfl
  | 6, _ => rfl
  | 7, _ => rfl
  | 8, _ => rfl
  | 9, _ => rfl
theorem comeF_cf (k : Int) : CF Tryd.prog (comeF k) := by
  unfold comeF
  split
  · infer_instance
  · split
    · infer_instance
    · infer_instance

set_option maxHeartbeats 4000000 in
theorem make_any (v : Value) (t : Tre) (w : World) (hr : RTree (Old w) w v t) (ht : t.wf) (hT : Tab w) : Calls Tryd.prog 58 #[v] w (RetTB w (makeP t)) := by
  have hr0 := hr
  obtain ⟨nv, rfl, A, c, rows0, rfl, hA, hrows, hc⟩ := hr
  have hlen := ht.len
  unfold bigN at hlen
  refine TC.calls (l := [.agg #[.slice A t.nodes.length c, .int .i64 t.root]]) Tryd.func58 rfl Tryd.ntmps58 rfl (St.start w) ?_
  cases hri : rightP t with
  | false =>
    have hrin : (!rightP t) = true := by rw [hri]; rfl
    rw [makeP_no hri]
    repeat' (first | (refine T.callV rfl rfl (fun w' hw' => right_any _ t w' (St.old_tree hw' hr0) ht (Tab.st hT hw')) ?_) | (refine W1 ?_) | (refine W2 (fun hc => ?_) (fun hc => ?_)) | (intro _))
    rename_i b1 b2
    refine TX.ret_gen (rs := [.cell 2 24, .tmp 3]) (vs := [.agg #[.slice none 0 0, .int .i64 0], .bool false]) rfl (.cell rfl (blk_res (cs := [.slice none 0 0, .int .i64 0]) AtA rfl) (.tmp rfl .nil)) (fun w' hw => ?_)
    have h1 := St.push (H := hNodes (.slice none 0 0) []) hw Chg.refl hNodes_nil
    exact Ret.mk ((none : Option Addr), 0) trivial (.cons .here .nil) h1
  | true =>
    have hrin : (!rightP t) = false := by rw [hri]; rfl
    have hR := rightP_spec hri
    have hroot := hR.root
    have hm1 : 8 * t.nodes.length ≤ 281474976710656 := by omega
    repeat' (first | ((refine T.callV rfl rfl (fun w' hw' => right_any _ t w' (St.old_tree hw' hr0) ht (Tab.st hT hw')) ?_)) | ((refine T.callV rfl rfl (fun w' hw' => joiners_any w') ?_)) | (refine W1 ?_) | (refine W2 (fun hc => ?_) (fun hc => ?_)) | (intro _))
    rename_i b1 b2 b4 b5 BP
    refine TC.sub (M' := St w [own 3 1 (some ⟨BP, 0, none⟩) t.nodes.length t.nodes.length (List.replicate t.nodes.length (Value.int IntKind.i64 0).cells.toList), blk b5 joinersL 86, blk b4 [.slice none 0 0] 84, blk b2 [.slice none 0 0, .int .i64 0] 24, blk b1 [.slice A t.nodes.length c, .int .i64 t.root] 24]) (fun w' hw => hw) ?_
    refine TC.loopA (ι := List Nod × List Int) ([], []) (fun k r => (24, .int .i64 k.2.length) :: r)
      (fun k => St w [hAr b4 k.1, own 3 1 (some ⟨BP, 0, none⟩) t.nodes.length t.nodes.length (irows (k.2 ++ List.replicate (t.nodes.length - k.2.length) 0)), blk b5 joinersL 86, blk b2 [.slice none 0 0, .int .i64 0] 24, blk b1 [.slice A t.nodes.length c, .int .i64 t.root] 24])
      (fun k => k.2.length ≤ t.nodes.length ∧ MInv t k.2.length k.1 k.2) (fun k => t.nodes.length - k.2.length) KpA SubA (fun w' hw => ?_) ⟨Nat.zero_le _, MInv.zero t⟩ ?_
    · have h0 := St.own_nil (e := 34) (sz := 9) hw
      have h1 := St.push (H := hRows [] []) h0 Chg.refl ⟨rfl, trivial⟩
      have h2 := St.inc (L' := [own 34 9 none ([] : List Nod).length 0 [], hRows [] [], blk b4 [.slice none ([] : List Nod).length 0] 84, own 3 1 (some ⟨BP, 0, none⟩) t.nodes.length t.nodes.length (List.replicate t.nodes.length (Value.int IntKind.i64 0).cells.toList), blk b5 joinersL 86, blk b2 [.slice none 0 0, .int .i64 0] 24, blk b1 [.slice A t.nodes.length c, .int .i64 t.root] 24]) IncQ h1
      have h3 := hAr_mk h2
      rw [irows_rep] at h3
      simpa using h3
    rintro ⟨ar, pl⟩ ⟨hi, hM⟩
    simp only at hi hM ⊢
    generalize hil : pl.length = i at *
    have hal := hM.alen
    have hkok := hM.kok
    by_cases hlt : i < t.nodes.length
    · have hck : decide ((i : Int) < (t.nodes.length : Int)) = true := by simp [hlt]
      have hns : t.nodes[i]? = some t.nodes[i] := List.getElem?_eq_getElem hlt
      obtain ⟨cs, hcs, kv, rfl, K, kc, rfl, hK, hkc⟩ := hrows.get hns
      have hko := hR.kok i _ hns
      have hfit := hR.fits i _ hns
      have hstep := MInv.step hR hns hM
      have hwn := ht.nodes _ (List.getElem_mem hlt)
      generalize t.nodes[i] = n at *
      have hA' : A = some (A.getD default) := hA.some_ (by omega)
      have hkl := hwn.kids.1
      have hkd := kind_lt hfit
      obtain ⟨kd, hkd'⟩ : ∃ kd : Nat, n.kind = kd := ⟨n.kind.toNat, by omega⟩
      obtain ⟨hpb, _⟩ := places hM (by omega) n.kids hko
      obtain ⟨f, hf⟩ : ∃ f : Int → Int, f = fun k => pl.getD k.toNat 0 := ⟨_, rfl⟩
      rw [← hf] at hstep hpb
      have hfy : ∀ y : Nat, y < i → (pl ++ List.replicate (t.nodes.length - i) 0)[y]? = some (f y) := by
        intro y hy
        rw [hf, List.getElem?_append_left (by omega), List.getElem?_eq_getElem (by omega)]
        simp only [Int.toNat_natCast]
        rw [List.getD_eq_getElem?_getD, List.getElem?_eq_getElem (by omega)]
        rfl
      have hset : ∀ x : Int, (pl ++ List.replicate (t.nodes.length - i) 0).set i x = (pl ++ [x]) ++ List.replicate (t.nodes.length - (i + 1)) 0 := by
        intro x
        rw [List.set_append_right _ _ (by omega), hil, Nat.sub_self]
        obtain ⟨q, hq⟩ : ∃ q, t.nodes.length - i = q + 1 := ⟨t.nodes.length - i - 1, by omega⟩
        rw [hq, show t.nodes.length - (i + 1) = q by omega, List.replicate_succ]
        simp
      have hgi : (pl ++ List.replicate (t.nodes.length - i) 0)[i]? = some 0 := by
        rw [List.getElem?_append_right (by omega), hil, Nat.sub_self]
        obtain ⟨q, hq⟩ : ∃ q, t.nodes.length - i = q + 1 := ⟨t.nodes.length - i - 1, by omega⟩
        rw [hq, List.replicate_succ]
        rfl
      generalize (pl ++ List.replicate (t.nodes.length - i) 0) = plx at *
      have hplen : plx.length = plx.length := rfl
      unfold bigL at hkl
      repeat' (first | (refine W1 ?_) | (refine W2 (fun hc => ?_) (fun hc => ?_)) | (intro _))
      rename_i b8
      refine TC.loopA (ι := Nat × Option Addr × Nat) (0, none, 0) (fun k r => (9, .slice k.2.1 k.1 k.2.2) :: (32, .int .i64 k.1) :: r)
        (fun k => St w [own 3 1 k.2.1 k.1 k.2.2 (irows ((n.kids.take k.1).map f)), blk b8 (n.cells (.slice K n.kids.length kc)) 34, hAr b4 ar, own 3 1 (some ⟨BP, 0, none⟩) t.nodes.length t.nodes.length (irows plx), blk b5 joinersL 86, blk b2 [.slice none 0 0, .int .i64 0] 24, blk b1 [.slice A t.nodes.length c, .int .i64 t.root] 24])
        (fun k => k.1 ≤ n.kids.length) (fun k => n.kids.length - k.1) KpA SubA (fun w' hw => St.own_nil hw) (Nat.zero_le _) ?_
      rintro ⟨j, A6, c6⟩ hj
      simp only at hj ⊢
      by_cases hjl : j < n.kids.length
      · have hcj : decide ((j : Int) < (n.kids.length : Int)) = true := by simp [hjl]
        have hjk : n.kids[j]? = some n.kids[j] := List.getElem?_eq_getElem hjl
        have htk : n.kids.take (j + 1) = n.kids.take j ++ [n.kids[j]] := List.take_succ_eq_append_getElem hjl
        have hy0 := hko _ (List.getElem_mem hjl)
        generalize n.kids[j] = y at *
        obtain ⟨y, rfl⟩ : ∃ z : Nat, y = z := ⟨y.toNat, by omega⟩
        have hyl : y < t.nodes.length := by omega
        have hyp := hfy y (by omega)
        have hK' : K = some (K.getD default) := hK.some_ (by omega)
        repeat' (first | (refine W1 ?_) | (refine W2 (fun hc => ?_) (fun hc => ?_)) | (intro _))
        refine T.append (rows := irows ((n.kids.take j).map f)) (news := irows [f y]) rfl rfl rfl DelA (fun w hw => St.own_arr hw AtA) (fun _ _ => irows_oneB _) (by unfold maxLen; omega) (by omega) (fun A7 c7 => ?_)
        have e3 : irows ((n.kids.take j).map f) ++ irows [f y] = irows ((n.kids.take (j + 1)).map f) := by rw [htk]; simp [irows]
        rw [e3]
        repeat' (first | (refine W1 ?_) | (refine W2 (fun hc => ?_) (fun hc => ?_)) | (intro _))
        exact TX.round (j + 1, A7, c7) hjl (show n.kids.length - (j + 1) < n.kids.length - j by omega) SubA (fun w' hw => St.inc IncQ hw)
      · have hcj : decide ((j : Int) < (n.kids.length : Int)) = false := by simp; omega
        obtain rfl : j = n.kids.length := by omega
        rw [List.take_of_length_le (Nat.le_refl _)]
        have hml : (n.kids.map f).length = n.kids.length := by simp
        have hMC : ∀ (a : List Nod) w', St w (hAr b4 a :: [blk b8 (n.cells (.slice K n.kids.length kc)) 34, own 3 1 (some ⟨BP, 0, none⟩) t.nodes.length t.nodes.length (irows plx), blk b5 joinersL 86, blk b2 [.slice none 0 0, .int .i64 0] 24, blk b1 [.slice A t.nodes.length c, .int .i64 t.root] 24]) w' →
            St w [hEx (fun a => hAr b4 a), blk b8 (n.cells (.slice K n.kids.length kc)) 34, own 3 1 (some ⟨BP, 0, none⟩) t.nodes.length t.nodes.length (irows plx), blk b5 joinersL 86, blk b2 [.slice none 0 0, .int .i64 0] 24, blk b1 [.slice A t.nodes.length c, .int .i64 t.root] 24] w' :=
          fun a w' hw => St.shutEx (f := fun a => hAr b4 a) a hw
        have hMC0 : ∀ w', St w [own 3 1 A6 n.kids.length c6 (irows (n.kids.map f)), blk b8 (n.cells (.slice K n.kids.length kc)) 34, hAr b4 ar, own 3 1 (some ⟨BP, 0, none⟩) t.nodes.length t.nodes.length (irows plx), blk b5 joinersL 86, blk b2 [.slice none 0 0, .int .i64 0] 24, blk b1 [.slice A t.nodes.length c, .int .i64 t.root] 24] w' →
            St w [hEx (fun a => hAr b4 a), blk b8 (n.cells (.slice K n.kids.length kc)) 34, own 3 1 (some ⟨BP, 0, none⟩) t.nodes.length t.nodes.length (irows plx), blk b5 joinersL 86, blk b2 [.slice none 0 0, .int .i64 0] 24, blk b1 [.slice A t.nodes.length c, .int .i64 t.root] 24] w' := fun w' hw => hMC ar w' (St.inc IncQ hw)
        have hjg := joiners_get (k := kd) (by omega)
        rw [← hkd'] at hjg
        repeat' (first | (refine TC.lexC (St w [hEx (fun a => hAr b4 a), blk b8 (n.cells (.slice K n.kids.length kc)) 34, own 3 1 (some ⟨BP, 0, none⟩) t.nodes.length t.nodes.length (irows plx), blk b5 joinersL 86, blk b2 [.slice none 0 0, .int .i64 0] 24, blk b1 [.slice A t.nodes.length c, .int .i64 t.root] 24]) [] mixed (by kernel_rfl) ?_) | ((apply TL.quiet; (exact rfl); (exact rfl); (exact hMC0); (exact EvA))) | (refine W1 ?_) | (refine W2 (fun hc => ?_) (fun hc => ?_)) | (intro _))
        refine TL.pure_ rfl rfl (Ev.arrAddr (k := .u8) (i := kd) rfl (by rw [← hkd']; exact rfl) (by omega)) ?_
        refine TL.quiet rfl rfl hMC0 (Ev.load1b (v := .func (.func (comeF n.kind)) #[] #[]) rfl AtA hjg) ?_
        repeat' (first | ((apply TL.quiet; (exact rfl); (exact rfl); (exact hMC0); (exact EvA))) | (refine W1 ?_) | (refine W2 (fun hc => ?_) (fun hc => ?_)) | (intro _))
        have hcall : ∀ w', St w [own 3 1 A6 n.kids.length c6 (irows (n.kids.map f)), blk b8 (n.cells (.slice K n.kids.length kc)) 34, hAr b4 ar, own 3 1 (some ⟨BP, 0, none⟩) t.nodes.length t.nodes.length (irows plx), blk b5 joinersL 86, blk b2 [.slice none 0 0, .int .i64 0] 24, blk b1 [.slice A t.nodes.length c, .int .i64 t.root] 24] w' →
            Calls Tryd.prog (comeF n.kind) (([.pointer (some ⟨b4, 0, none⟩), .agg (n.cells (.slice K n.kids.length kc)).toArray, .slice A6 n.kids.length c6] : List Value) ++ []).toArray w' (fun e w'' => ∃ x : Unit, e = .returned (.int .i64 (comeA ar n (n.kids.map f)).2) ∧ St w (hAr b4 (comeA ar n (n.kids.map f)).1 :: [blk b8 (n.cells (.slice K n.kids.length kc)) 34, own 3 1 (some ⟨BP, 0, none⟩) t.nodes.length t.nodes.length (irows plx), blk b5 joinersL 86, blk b2 [.slice none 0 0, .int .i64 0] 24, blk b1 [.slice A t.nodes.length c, .int .i64 t.root] 24]) w'') := by
          intro w' hw'
          have h1 := come_any (L0 := [blk b8 (n.cells (.slice K n.kids.length kc)) 34, own 3 1 (some ⟨BP, 0, none⟩) t.nodes.length t.nodes.length (irows plx), blk b5 joinersL 86, blk b2 [.slice none 0 0, .int .i64 0] 24, blk b1 [.slice A t.nodes.length c, .int .i64 t.root] 24]) b4 3 c6 A6 ar n (n.kids.map f) (.slice K n.kids.length kc) w' (by unfold bigN; omega) (by rw [hml]; unfold bigL; omega) hpb (by rw [hml]; exact St.inc IncQ hw')
          rw [hml] at h1
          exact h1
        generalize hcm : comeA ar n (n.kids.map f) = r at *
        obtain ⟨ar', p⟩ := r
        dsimp only at hcall hstep
        refine TL.kcall rfl rfl hMC0 (Cl.callFM (cap := []) (comeF_cf _) rfl rfl hcall) (fun _ => hMC _) (fun _ => ?_)
        repeat' (first | (refine W1 ?_) | (refine W2 (fun hc => ?_) (fun hc => ?_)) | (intro _))
        apply TL.loudN
        exact rfl
        refine Ac.storeA (i := i) (o := 0) (r := [.int .i64 0]) rfl rfl rfl rfl rfl rfl UpdA (by omega) (irows_get hgi) (by simp)
        intro _
        have e1 : (irows plx).set i (splice [.int .i64 0] 0 [.int .i64 p]) = irows ((pl ++ [p]) ++ List.replicate (t.nodes.length - (i + 1)) 0) := by rw [← hset]; exact (irows_set plx i p).symm
        rw [e1]
        repeat' (first | (refine W1 ?_) | (refine W2 (fun hc => ?_) (fun hc => ?_)) | (intro _))
        have hlp : (pl ++ [p]).length = i + 1 := by simp [hil]
        refine TX.round (ar', pl ++ [p]) ⟨by show (pl ++ [p]).length ≤ _; omega, by show MInv t (pl ++ [p]).length ar' (pl ++ [p]); rw [hlp]; exact hstep⟩ (by show t.nodes.length - (pl ++ [p]).length < t.nodes.length - i; omega) ?_ (fun w' hw => ?_)
        · dsimp only
          rw [hlp]
          exact SubA
        · dsimp only
          rw [hlp]
          exact St.inc IncQ hw
    · have hck : decide ((i : Int) < (t.nodes.length : Int)) = false := by simp; omega
      obtain rfl : i = t.nodes.length := by omega
      obtain ⟨⟨hp0, hpl⟩, hfo, hnd⟩ := MInv.last hR hM
      obtain ⟨rt, hrt⟩ : ∃ r : Nat, t.root = r := ⟨t.root.toNat, by omega⟩
      have hfb := (foT_fb hri).1
      have hT2 : takenP ⟨opA ar, 0⟩ (pl.getD t.root.toNat 0) = treT (foT t).norm := by
        rw [taken_opA hkok.chOf hp0 hpl hnd, hfo, Fo.opF_nrm hfb]
      have hg : (pl ++ List.replicate (t.nodes.length - t.nodes.length) 0)[rt]? = some (pl.getD rt 0) := by
        rw [List.getElem?_append_left (by omega), List.getElem?_eq_getElem (by omega), List.getD_eq_getElem?_getD, List.getElem?_eq_getElem (by omega)]
        rfl
      rw [hrt, Int.toNat_natCast] at hp0 hpl hT2 hnd
      rw [makeP_yes hri]
      rw [hrt]
      have hl2 : (treT (foT t).norm).nodes.length = (treT (foT t).norm).nodes.length := rfl
      generalize (pl ++ List.replicate (t.nodes.length - t.nodes.length) 0) = plx at *
      generalize pl.getD rt 0 = p at *
      generalize treT (foT t).norm = z at *
      repeat' (first | (refine W1 ?_) | (refine W2 (fun hc => ?_) (fun hc => ?_)) | (intro _))
      refine T.callM (val := fun x : Option Addr × Nat => .agg #[.slice x.1 z.nodes.length x.2, .int .i64 z.root]) (LL := fun x => [hNodes (.slice x.1 z.nodes.length x.2) z.nodes, own 3 1 (some ⟨BP, 0, none⟩) t.nodes.length t.nodes.length (irows plx), blk b5 joinersL 86, blk b2 [.slice none 0 0, .int .i64 0] 24, blk b1 [.slice A t.nodes.length c, .int .i64 rt] 24]) rfl rfl (fun w' hw' => ?_) (fun x => ?_)
      · have h1 := artaken_any b4 ar p w' (by unfold bigN; omega) hkok.chOf hp0 hpl hnd hw'
        rw [hT2] at h1
        exact h1
      repeat' (first | (refine W1 ?_) | (refine W2 (fun hc => ?_) (fun hc => ?_)) | (intro _))
      refine TX.ret_gen (rs := [.cell 2 24, .tmp 3]) (vs := [.agg #[.slice x.1 z.nodes.length x.2, .int .i64 z.root], .bool true]) rfl (.cell rfl (blk_res (cs := [.slice x.1 z.nodes.length x.2, .int .i64 z.root]) AtA rfl) (.tmp rfl .nil)) (fun w' hw => ?_)
      exact Ret.mk x trivial IncA hw
end Go.Proofs.YtlhkkngpppcfoaaDoor

namespace Go.Bonsai
open Go Go.Sl Go.RowKit
def openedP (k : Int) (t : Tre) : List Tre × Bool := if rightP t = true then (if (rootP (makeP t).1).kind = k then kidsP (makeP t).1 else [(makeP t).1], true) else ([], false)
theorem openedP_no {k : Int} {t : Tre} (h : rightP t = false) : openedP k t = ([], false) := by unfold openedP; rw [if_neg (by rw [h]; simp)]
theorem openedP_eq {k : Int} {t : Tre} (h : rightP t = true) (hk : (rootP (makeP t).1).kind = k) : openedP k t = (kidsP (makeP t).1, true) := by unfold openedP; rw [if_pos h, if_pos hk]
theorem openedP_ne {k : Int} {t : Tre} (h : rightP t = true) (hk : (rootP (makeP t).1).kind ≠ k) : openedP k t = ([(makeP t).1], true) := by unfold openedP; rw [if_pos h, if_neg hk]
theorem norm_one {t : Tre} (h : rightP t = true) : ∃ j, (foT t).norm = .cons (rootP (makeP t).1) j .nil ∧ (Fo.cons (rootP (makeP t).1) j .nil).fb ∧ kidsP (makeP t).1 = j.trees ∧ (makeP t).1 = treT (.cons (rootP (makeP t).1) j .nil) := by
  have hnt := makeP_nt h
  obtain ⟨m, j, e⟩ := Fo.one hnt.len
  have hr := hnt
  rw [e] at hr
  have hm := hr.root
  rw [hm]
  exact ⟨j, e, hr.fb, by rw [kidsP, if_pos hr.right, hr.fo]; rfl, hr.eq⟩
theorem parts_cases {t : Tre} (h : rightP t = true) : ((rootP (makeP t).1).kind = 4 ∧ partsP t = kidsP (makeP t).1 ∧ 2 ≤ (kidsP (makeP t).1).length) ∨
    ((rootP (makeP t).1).kind ≠ 4 ∧ partsP t = if (rootP (makeP t).1).kind = 0 then [] else [(makeP t).1]) := by
  obtain ⟨j, e, hf, hk, hx⟩ := norm_one h
  obtain ⟨⟨h1, h2, h3⟩, _⟩ := Fo.fb_cons.1 hf
  rw [partsP, if_pos h, e]
  unfold Fo.parts
  by_cases h4 : (rootP (makeP t).1).kind = 4
  · left
    obtain ⟨h5, hc⟩ := seq_plain h1 h4 h2
    refine ⟨h4, ?_, by rw [hk, Fo.trees_len]; omega⟩
    simp only [Fo.drop0]
    rw [if_neg (by omega)]
    simp only [Fo.opn]
    rw [if_pos h4, Fo.appN, hk]
  · right
    refine ⟨h4, ?_⟩
    simp only [Fo.drop0]
    by_cases h0 : (rootP (makeP t).1).kind = 0
    · rw [if_pos h0, if_pos h0]; rfl
    · rw [if_neg h0, if_neg h0]
      simp only [Fo.opn]
      rw [if_neg h4, Fo.trees, Fo.trees, ← hx]
theorem ways_cases {t : Tre} (h : rightP t = true) : waysP t = (openedP 5 t).1 := by
  obtain ⟨j, e, hf, hk, hx⟩ := norm_one h
  rw [waysP, if_pos h, e]
  unfold Fo.ways
  by_cases h5 : (rootP (makeP t).1).kind = 5
  · rw [openedP_eq h h5, hk]
    simp only [Fo.opn]
    rw [if_pos h5, Fo.appN]
  · rw [openedP_ne h h5]
    simp only [Fo.opn]
    rw [if_neg h5, Fo.trees, Fo.trees, ← hx]
theorem kindA_shape {ns : List Nod} {rows : List (List Value)} (hs : ShapeN rows ns) {i : Nat} (hi : i < ns.length) : ∃ K kc, rows[i]? = some ((ns.getD i .zero).cells (.slice K (ns.getD i .zero).kids.length kc)) := by
  rw [List.getD_eq_getElem?_getD, List.getElem?_eq_getElem hi]
  exact hs.2 i _ (List.getElem?_eq_getElem hi)
theorem rootP_kind {t : Tre} (h : rightP t = true) : (t.nodes.getD t.root.toNat .zero).kind = (rootP t).kind := by rw [rootP, if_pos h]
theorem St.openNO {w0 w : World} {L L' : List HP} {A : Option Addr} {c : Nat} {ns : List Nod} (hd : Del L (hNodes (.slice A ns.length c) ns) L') (h : St w0 L w) :
    ∃ x : { x : Nat × List (List Value) // ShapeN x.2 ns }, St w0 (own x.1.1 9 A ns.length c x.1.2 :: hRows x.1.2 ns :: L') w := by
  obtain ⟨hb, S1, h1, ⟨e, A', c', rows, S2, eq, hs, ho, hr⟩, h3⟩ := h.del hd
  injection eq with e1 e2 e3
  subst e1; subst e3
  exact ⟨⟨(e, rows), Go.Proofs.YtlhkkngpppcfoaaDoor.hRows_shape hr⟩, hb, S2, fun b hb => h1 b (hs b hb), ho, fun b => S1 b ∧ ¬ S2 b, fun b hb => ⟨h1 b hb.1, hb.2⟩, hr, h3.keep (fun b hb => ⟨⟨hb.1, fun h => hb.2 (hs b h)⟩, fun h => hb.2 h.1⟩) (fun _ _ => rfl)⟩
theorem St.get_no {w0 w : World} {L : List HP} {e c n : Nat} {A : Option Addr} {rows : List (List Value)} {ns : List Nod} (hn : ns.length = n) (h : St w0 L w) (ha : At L (own e 9 A n c rows)) (hb : At L (hRows rows ns)) : RNodes (Old w) w (.slice A n c) ns := by
  subst hn
  exact ⟨A, c, rows, rfl, St.own_arr h ha, (hRows_all (h.at_all hb)).imp fun _ _ => RNodeF.node, own.cap (h.at_all ha)⟩
theorem St.openTO {w0 w : World} {L L' : List HP} {A : Option Addr} {c : Nat} {ts : List Tre} (hd : Del L (hTrees (.slice A ts.length c) ts) L') (h : St w0 L w) :
    ∃ x : Nat × List (List Value), St w0 (own x.1 2 A ts.length c x.2 :: hTR x.2 ts :: L') w := by
  obtain ⟨hb, S1, h1, ⟨e, A', c', rows, S2, eq, hs, ho, hr⟩, h3⟩ := h.del hd
  injection eq with e1 e2 e3
  subst e1; subst e3
  exact ⟨(e, rows), hb, S2, fun b hb => h1 b (hs b hb), ho, fun b => S1 b ∧ ¬ S2 b, fun b hb => ⟨h1 b hb.1, hb.2⟩, hr, h3.keep (fun b hb => ⟨⟨hb.1, fun h => hb.2 (hs b h)⟩, fun h => hb.2 h.1⟩) (fun _ _ => rfl)⟩
/-- the first of trees that are one's own -/
theorem St.openTR1 {w0 w : World} {L L' : List HP} {rows : List (List Value)} {t : Tre} {ts : List Tre} (hd : Del L (hTR rows (t :: ts)) L') (h : St w0 L w) :
    ∃ x : { x : (Option Addr × Nat) × List (List Value) // rows = [.slice x.1.1 t.nodes.length x.1.2, .int .i64 t.root] :: x.2 }, St w0 (hNodes (.slice x.1.1.1 t.nodes.length x.1.1.2) t.nodes :: hTR x.1.2 ts :: L') w := by
  obtain ⟨hb, S1, h1, ⟨hl, hs⟩, h3⟩ := h.del hd
  match rows, hl, hs with
  | r :: rs, hl, ⟨S2, g1, ⟨A, c, hr, hn⟩, g3⟩ =>
    exact ⟨⟨((A, c), rs), by rw [hr]⟩, hb, S2, fun b hb => h1 b (g1 b hb), hn, fun b => S1 b ∧ ¬ S2 b, fun b hb => ⟨h1 b hb.1, hb.2⟩, ⟨by simpa using hl, g3⟩, h3.keep (fun b hb => ⟨⟨hb.1, fun h => hb.2 (g1 b h)⟩, fun h => hb.2 h.1⟩) (fun _ _ => rfl)⟩
theorem hTR_one {S : Nat → Prop} {w : World} {A : Option Addr} {c : Nat} {t : Tre} (h : (hNodes (.slice A t.nodes.length c) t.nodes).on S w) : (hTR [[.slice A t.nodes.length c, .int .i64 t.root]] [t]).on S w :=
  ⟨rfl, S, fun _ h => h, ⟨A, c, rfl, h⟩, trivial⟩
theorem RTrees.ownTO {w0 w : World} {L : List HP} {e n c : Nat} {A : Option Addr} {rows : List (List Value)} {ts : List Tre} (hl : ts.length = n) (h : St w0 L w) (ha : At L (own e 2 A n c rows)) (hb : At L (hTR rows ts)) : RTrees (Old w) w (.slice A n c) ts := by
  subst hl
  exact ⟨A, c, rows, rfl, St.own_arr h ha, hTR_all (h.at_all hb), own.cap (h.at_all ha)⟩
end Go.Bonsai
namespace Go.Proofs.YtlhkkngpppcfoaaDoor
open Go Go.Sl Go.RowKit Go.Bonsai
set_option linter.unusedVariables false
set_option linter.unusedSimpArgs false

/-- new trees, and whether there are any -/
abbrev RetTsB (w : World) (r : List Tre × Bool) : Ending → World → Prop := Ret w (fun p : Option Addr × Nat => .tuple #[.slice p.1 r.1.length p.2, .bool r.2]) (fun p => [hTrees (.slice p.1 r.1.length p.2) r.1]) (fun _ => True)
theorem opened_any (k : Int) (v : Value) (t : Tre) (w : World) (hr : RTree (Old w) w v t) (ht : t.wf) (hT : Tab w) : Calls Tryd.prog 96 #[v, .int .u8 k] w (RetTsB w (openedP k t)) := by
  have hr0 := hr
  obtain ⟨nv, rfl, A, c, rows0, rfl, hA, hrows, hc⟩ := hr
  refine TC.calls (l := [.agg #[.slice A t.nodes.length c, .int .i64 t.root], .int .u8 k]) Tryd.func96 rfl Tryd.ntmps96 rfl (St.start w) ?_
  cases hri : rightP t with
  | false =>
    rw [openedP_no hri]
    have hm := makeP_is t
    rw [hri] at hm
    generalize hx : makeP t = x at *
    have hm' : (!x.2) = true := by rw [hm]; rfl
    repeat' (first | (refine T.callR rfl rfl (fun w' hw' => by have h := make_any _ t w' (St.old_tree hw' hr0) ht (Tab.st hT hw'); rw [hx] at h; exact h) (fun p _ => ?_)) | (refine W1 ?_) | (refine W2 (fun hc => ?_) (fun hc => ?_)) | (intro _))
    refine TX.ret_gen (rs := [.tmp 4, .tmp 5]) (vs := [.slice none 0 0, .bool false]) rfl (.tmp rfl (.tmp rfl .nil)) (fun w' hw => ?_)
    have h1 := St.push (H := hTrees (.slice none 0 0) []) hw Chg.refl hTrees_nil
    exact Ret.mk ((none : Option Addr), 0) trivial (.cons .here .nil) h1
  | true =>
    have hm := makeP_is t
    rw [hri] at hm
    have hnt := makeP_nt hri
    have hwx := makeP_wf ht
    have hoe := openedP_eq (k := k) hri
    have hon := openedP_ne (k := k) hri
    generalize hx : makeP t = xb at *
    obtain ⟨x, ok⟩ := xb
    simp only at hm hnt hwx hoe hon
    subst hm
    have hxr := hnt.right
    have h0 := (rightP_spec hxr).root
    have hrk := rootP_kind hxr
    have hlen := hwx.len
    unfold bigN at hlen
    obtain ⟨nds, root⟩ := x
    simp only at h0 hrk hlen
    obtain ⟨r, hrr⟩ : ∃ r : Nat, root = r := ⟨root.toNat, by omega⟩
    subst hrr
    rw [Int.toNat_natCast] at hrk
    have hm' : (!true) = false := rfl
    repeat' (first | (refine T.callR rfl rfl (fun w' hw' => by have h := make_any _ t w' (St.old_tree hw' hr0) ht (Tab.st hT hw'); rw [hx] at h; exact h) (fun p _ => ?_)) | (refine W1 ?_) | (refine W2 (fun hc => ?_) (fun hc => ?_)) | (intro _))
    dsimp only
    refine T.ex (fun w hw => St.openNO (A := p.1) (c := p.2) (ns := nds) DelA hw) (fun xo => ?_)
    obtain ⟨⟨e, rows⟩, hsh⟩ := xo
    dsimp only at hsh ⊢
    obtain ⟨K, kc, hrow⟩ := kindA_shape hsh (i := r) (by omega)
    generalize nds.getD r .zero = n at hrow hrk
    refine T.fact (φ := p.1 = some (p.1.getD default)) (fun w hw => (St.own_arr (A := p.1) (n := nds.length) (c := p.2) (rows := rows) hw AtA).some_ (by omega)) (fun hA => ?_)
    by_cases hk : n.kind = k
    · have hdk : decide (n.kind = k) = true := by simp [hk]
      rw [hoe (by rw [← hrk]; exact hk)]
      repeat' (first | (refine W1 ?_) | (refine W2 (fun hc => ?_) (fun hc => ?_)) | (intro _))
      refine T.callR rfl rfl (fun w' hw' => kids_any _ ⟨nds, (r : Int)⟩ w' ⟨_, rfl, St.get_no (e := e) (A := p.1) (c := p.2) (rows := rows) (ns := nds) rfl hw' AtA AtA⟩ hwx (Tab.st hT hw')) (fun q _ => ?_)
      repeat' (first | (refine W1 ?_) | (refine W2 (fun hc => ?_) (fun hc => ?_)) | (intro _))
      refine TX.ret_gen (rs := [.tmp 4, .tmp 5]) (vs := [.slice q.1 (kidsP ⟨nds, (r : Int)⟩).length q.2, .bool true]) rfl (.tmp rfl (.tmp rfl .nil)) (fun w' hw => ?_)
      exact Ret.mk q trivial IncA hw
    · have hdk : decide (n.kind = k) = false := by simp [hk]
      rw [hon (by rw [← hrk]; exact hk)]
      repeat' (first | (refine W1 ?_) | (refine W2 (fun hc => ?_) (fun hc => ?_)) | (intro _))
      rename_i B
      refine TX.ret_gen (rs := [.tmp 4, .tmp 5]) (vs := [.slice (some ⟨B, 0, none⟩) 1 1, .bool true]) rfl (.tmp rfl (.tmp rfl .nil)) (fun w' hw => ?_)
      have h1 := St.inc (L' := [own e 9 p.1 nds.length p.2 rows, hRows rows nds, own 24 2 (some ⟨B, 0, none⟩) 1 1 [[.slice p.1 nds.length p.2, .int .i64 r]]]) IncQ hw
      have h2 := St.joinX (K := hNodes (.slice p.1 nds.length p.2) nds) (fun S S' w h h' hd => hNodes_join h h' hd) h1
      have h3 := St.weak (H' := hTR [[.slice p.1 nds.length p.2, .int .i64 r]] [⟨nds, (r : Int)⟩]) (fun S w h => hTR_one (t := ⟨nds, (r : Int)⟩) h) h2
      have h4 := St.joinX (K := hTrees (.slice (some ⟨B, 0, none⟩) 1 1) [⟨nds, (r : Int)⟩]) (fun S S' w h h' hd => hTrees_join (l := [⟨nds, (r : Int)⟩]) h h' hd) h3.swap
      exact Ret.mk ((some ⟨B, 0, none⟩ : Option Addr), 1) trivial IncA h4
theorem ways_any (v : Value) (t : Tre) (w : World) (hr : RTree (Old w) w v t) (ht : t.wf) (hT : Tab w) : Calls Tryd.prog 60 #[v] w (RetTs w (waysP t)) := by
  have hr0 := hr
  obtain ⟨nv, rfl, A, c, rows0, rfl, hA, hrows, hc⟩ := hr
  refine TC.calls (l := [.agg #[.slice A t.nodes.length c, .int .i64 t.root]]) Tryd.func60 rfl Tryd.ntmps60 rfl (St.start w) ?_
  have hw5 : waysP t = (openedP 5 t).1 := by
    cases hri : rightP t with
    | false => rw [openedP_no hri, waysP, if_neg (by rw [hri]; simp)]
    | true => exact ways_cases hri
  rw [hw5]
  repeat' (first | (refine T.callR rfl rfl (fun w' hw' => opened_any 5 _ t w' (St.old_tree hw' hr0) ht (Tab.st hT hw')) (fun p _ => ?_)) | (refine W1 ?_) | (refine W2 (fun hc => ?_) (fun hc => ?_)) | (intro _))
  exact TX.ret_tmp rfl rfl (fun w' hw => Ret.mk p trivial IncA hw)
theorem eparts_any (v : Value) (t : Tre) (w : World) (hr : RTree (Old w) w v t) (ht : t.wf) (hT : Tab w) : Calls Tryd.prog 59 #[v] w (RetTs w (partsP t)) := by
  have hr0 := hr
  obtain ⟨nv, rfl, A, c, rows0, rfl, hA, hrows, hc⟩ := hr
  refine TC.calls (l := [.agg #[.slice A t.nodes.length c, .int .i64 t.root]]) Tryd.func59 rfl Tryd.ntmps59 rfl (St.start w) ?_
  have hcall : ∀ {L : List HP} (z : List Tre × Bool), openedP 4 t = z → ∀ w', St w L w' → Calls Tryd.prog 96 #[.agg #[.slice A t.nodes.length c, .int .i64 t.root], .int .u8 4] w' (RetTsB w' z) := fun z hz w' hw' => by
    have h := opened_any 4 _ t w' (St.old_tree hw' hr0) ht (Tab.st hT hw')
    rw [hz] at h
    exact h
  cases hri : rightP t with
  | false =>
    have hp : partsP t = [] := by rw [partsP, if_neg (by rw [hri]; simp)]
    rw [hp]
    have h1 : (!false) = true := rfl
    repeat' (first | (refine T.callR rfl rfl (hcall ([], false) (openedP_no hri)) (fun p _ => ?_)) | (refine W1 ?_) | (refine W2 (fun hc => ?_) (fun hc => ?_)) | (intro _))
    refine TX.ret_tmp rfl rfl (fun w' hw => ?_)
    have h1 := St.push (H := hTrees (.slice none 0 0) []) hw Chg.refl hTrees_nil
    exact Ret.mk ((none : Option Addr), 0) trivial (.cons .here .nil) h1
  | true =>
    have h1 : (!true) = false := rfl
    rcases parts_cases hri with ⟨hk, hp, hl⟩ | ⟨hk, hp⟩
    · rw [hp]
      have hl1 : decide (((kidsP (makeP t).1).length : Int) = 1) = false := by simp; omega
      have hop := openedP_eq hri hk
      generalize kidsP (makeP t).1 = l at *
      repeat' (first | (refine T.callR rfl rfl (hcall (l, true) hop) (fun p _ => ?_)) | (refine W1 ?_) | (refine W2 (fun hc => ?_) (fun hc => ?_)) | (intro _))
      exact TX.ret_tmp rfl rfl (fun w' hw => Ret.mk p trivial IncA hw)
    · rw [hp]
      have hop := openedP_ne hri hk
      have hwx := makeP_wf ht
      generalize (makeP t).1 = x at *
      have hl1 : decide ((([x] : List Tre).length : Int) = 1) = true := by simp
      repeat' (first | (refine T.callR rfl rfl (hcall ([x], true) hop) (fun p _ => ?_)) | (refine W1 ?_) | (refine W2 (fun hc => ?_) (fun hc => ?_)) | (intro _))
      refine T.ex (fun w hw => St.openTO (A := p.1) (c := p.2) (ts := [x]) DelA hw) (fun y => ?_)
      obtain ⟨e, rows⟩ := y
      refine T.ex (fun w hw => St.openTR1 (rows := rows) (t := x) (ts := []) DelA hw) (fun y => ?_)
      obtain ⟨⟨⟨Ax, cx⟩, rs⟩, hrs⟩ := y
      dsimp only at hrs ⊢
      refine T.fact (fun w hw => (St.at_all (H := hTR rs []) AtA hw).1) (fun hrl : rs.length = 0 => ?_)
      obtain rfl := List.length_eq_zero_iff.1 hrl
      subst hrs
      have hlx : 0 < ([x] : List Tre).length := by simp
      refine T.sub (M' := St w [hNodes (.slice Ax x.nodes.length cx) x.nodes, own e 2 p.1 ([x] : List Tre).length p.2 [[.slice Ax x.nodes.length cx, .int .i64 x.root]]]) (fun w hw => St.inc IncQ hw) ?_
      refine T.fact (φ := p.1 = some (p.1.getD default)) (fun w hw => (St.own_arr (A := p.1) (n := ([x] : List Tre).length) (c := p.2) (rows := [[.slice Ax x.nodes.length cx, .int .i64 x.root]]) hw AtA).some_ (by simp)) (fun hA => ?_)
      by_cases h0 : (rootP x).kind = 0
      · have hd0 : decide ((rootP x).kind = 0) = true := by simp [h0]
        rw [if_pos h0]
        repeat' (first | (refine W1 ?_) | (refine W2 (fun hc => ?_) (fun hc => ?_)) | (intro _))
        refine T.callV rfl rfl (fun w' hw' => root_any _ x w' (St.get_treeN (A := Ax) (c := cx) hw' AtA) hwx (Tab.st hT hw')) ?_
        repeat' (first | (refine W1 ?_) | (refine W2 (fun hc => ?_) (fun hc => ?_)) | (intro _))
        refine TX.ret_tmp rfl rfl (fun w' hw => ?_)
        have h1 := St.push (H := hTrees (.slice none 0 0) []) hw Chg.refl hTrees_nil
        exact Ret.mk ((none : Option Addr), 0) trivial (.cons .here .nil) h1
      · have hd0 : decide ((rootP x).kind = 0) = false := by simp [h0]
        rw [if_neg h0]
        repeat' (first | (refine W1 ?_) | (refine W2 (fun hc => ?_) (fun hc => ?_)) | (intro _))
        refine T.callV rfl rfl (fun w' hw' => root_any _ x w' (St.get_treeN (A := Ax) (c := cx) hw' AtA) hwx (Tab.st hT hw')) ?_
        repeat' (first | (refine W1 ?_) | (refine W2 (fun hc => ?_) (fun hc => ?_)) | (intro _))
        refine TX.ret_tmp rfl rfl (fun w' hw => ?_)
        have g1 := St.inc (L' := [hNodes (.slice Ax x.nodes.length cx) x.nodes, own e 2 p.1 ([x] : List Tre).length p.2 [[.slice Ax x.nodes.length cx, .int .i64 x.root]]]) IncQ hw
        have g2 := St.weak (H' := hTR [[.slice Ax x.nodes.length cx, .int .i64 x.root]] [x]) (fun S w h => hTR_one h) g1
        have g3 := St.joinX (K := hTrees (.slice p.1 ([x] : List Tre).length p.2) [x]) (fun S S' w h h' hd => hTrees_join h h' hd) g2.swap
        exact Ret.mk p trivial IncA g3
theorem eof_any (n : Nod) (kv : Value) (v : Value) (l : List Tre) (w : World) (hb : n.kids = []) (hk : (n.kind = 4 ∨ n.kind = 5) → 2 ≤ l.length) (hn : n.wf) (hr : RTrees (Old w) w v l) (hl : l.length ≤ bigN) (hwl : ∀ t ∈ l, t.wf) (hto : tot l + 1 ≤ bigN) (hT : Tab w) :
    Calls Tryd.prog 93 #[.agg (n.cells kv).toArray, v] w (RetTB w (putP n l)) := by
  have hr0 := hr
  obtain ⟨A, c, rows0, rfl, hA, hrows, hc⟩ := hr
  refine TC.calls (l := [.agg (n.cells kv).toArray, .slice A l.length c]) Tryd.func93 rfl Tryd.ntmps93 rfl (St.start w) ?_
  have hput := of_put hb hk
  have hwo := ofP_wf hn hwl hto
  obtain ⟨x, hx⟩ : ∃ x, x = ofP n l := ⟨_, rfl⟩
  have hcall : ∀ w', St w [blk w.heap.size (n.cells kv) 34] w' → True := fun _ _ => trivial
  rw [← hx] at hput hwo
  cases hok : x.2 with
  | false =>
    rw [hput, hok]
    have h1 : (!x.2) = true := by rw [hok]; rfl
    repeat' (first | (refine T.callR rfl rfl (fun w' hw' => by have h := of_any n kv _ l w' hn (St.old_trees hw' hr0) hl hwl hto (Tab.st hT hw'); rw [← hx] at h; exact h) (fun p _ => ?_)) | (refine W1 ?_) | (refine W2 (fun hc => ?_) (fun hc => ?_)) | (intro _))
    refine TX.ret_gen (rs := [.cell 4 24, .tmp 5]) (vs := [.agg #[.slice none 0 0, .int .i64 0], .bool false]) rfl (.cell rfl (blk_res (cs := [.slice none 0 0, .int .i64 0]) AtA rfl) (.tmp rfl .nil)) (fun w' hw => ?_)
    have h1 := St.push (H := hNodes (.slice none 0 0) []) hw Chg.refl hNodes_nil
    exact Ret.mk ((none : Option Addr), 0) trivial (.cons .here .nil) h1
  | true =>
    rw [hput, hok]
    have h1 : (!x.2) = false := by rw [hok]; rfl
    obtain ⟨z, hz⟩ : ∃ z, z = makeP x.1 := ⟨_, rfl⟩
    rw [if_pos rfl, ← hz]
    repeat' (first | ((refine T.callR rfl rfl (fun w' hw' => by have h := of_any n kv _ l w' hn (St.old_trees hw' hr0) hl hwl hto (Tab.st hT hw'); rw [← hx] at h; exact h) (fun p _ => ?_))) | (refine W1 ?_) | (refine W2 (fun hc => ?_) (fun hc => ?_)) | (intro _))
    rename_i p _ b6
    refine T.callR rfl rfl (fun w' hw' => by have h := make_any _ x.1 w' (St.get_treeN (A := p.1) (c := p.2) hw' AtA) hwo (Tab.st hT hw'); rw [← hz] at h; exact h) (fun q _ => ?_)
    repeat' (first | (refine W1 ?_) | (refine W2 (fun hc => ?_) (fun hc => ?_)) | (intro _))
    refine TX.ret_gen (rs := [.cell 4 24, .tmp 5]) (vs := [.agg #[.slice q.1 z.1.nodes.length q.2, .int .i64 z.1.root], .bool z.2]) rfl (.cell rfl (blk_res (cs := [.slice q.1 z.1.nodes.length q.2, .int .i64 z.1.root]) AtA rfl) (.tmp rfl .nil)) (fun w' hw => ?_)
    exact Ret.mk q trivial IncA hw
theorem eseq_any (v : Value) (l : List Tre) (w : World) (hr : RTrees (Old w) w v l) (hl : l.length ≤ bigN) (hwl : ∀ t ∈ l, t.wf) (hto : tot l + 1 ≤ bigN) (hT : Tab w) : Calls Tryd.prog 55 #[v] w (RetTB w (putP seqN0 l)) := by
  have hr0 := hr
  obtain ⟨A, c, rows0, rfl, hA, hrows, hc⟩ := hr
  refine TC.calls (l := [.slice A l.length c]) Tryd.func55 rfl Tryd.ntmps55 rfl (St.start w) ?_
  obtain ⟨z, hz⟩ : ∃ z, z = putP seqN0 l := ⟨_, rfl⟩
  rw [← hz]
  by_cases h0 : l.length = 0
  · have hd0 : decide ((l.length : Int) = 0) = true := by simp [h0]
    have hln : l = [] := List.length_eq_zero_iff.1 h0
    have hz' : z = (⟨[Nod.zero], 0⟩, true) := by rw [hz, hln]; rfl
    repeat' (first | (refine W1 ?_) | (refine W2 (fun hc => ?_) (fun hc => ?_)) | (intro _))
    refine T.callR rfl rfl (fun w' hw' => tree_empty w') (fun p _ => ?_)
    repeat' (first | (refine W1 ?_) | (refine W2 (fun hc => ?_) (fun hc => ?_)) | (intro _))
    rw [hz']
    refine TX.ret_gen (rs := [.cell 2 24, .tmp 3]) (vs := [.agg #[.slice p.1 1 p.2, .int .i64 0], .bool true]) rfl (.cell rfl (blk_res (cs := [.slice p.1 1 p.2, .int .i64 0]) AtA rfl) (.tmp rfl .nil)) (fun w' hw => ?_)
    exact Ret.mk p trivial IncA hw
  · have hd0 : decide ((l.length : Int) = 0) = false := by simp; exact fun h => h0 (by rw [h]; rfl)
    by_cases h1 : l.length = 1
    · have hd1 : decide ((l.length : Int) = 1) = true := by simp [h1]
      obtain ⟨x, hx⟩ := List.length_eq_one_iff.1 h1
      have hgx : l[0]? = some x := by rw [hx]; rfl
      obtain ⟨cs, hcs, K, kc, rfl, hK⟩ := hrows.get hgx
      have hwx := hwl x (by rw [hx]; simp)
      have hz' : z = makeP x := by rw [hz, hx]; exact put_one (by first | exact .inl rfl | exact .inr rfl) x
      have hA' : A = some (A.getD default) := hA.some_ (by omega)
      have hRx : RTree (Old w) w (.agg #[.slice K x.nodes.length kc, .int .i64 x.root]) x := ⟨_, rfl, hK⟩
      have hlt : 0 < l.length := by omega
      repeat' (first | (refine W1 ?_) | (refine W2 (fun hc => ?_) (fun hc => ?_)) | (intro _))
      refine T.callR rfl rfl (fun w' hw' => by have h := make_any _ x w' (St.old_tree hw' hRx) hwx (Tab.st hT hw'); rw [← hz'] at h; exact h) (fun q _ => ?_)
      repeat' (first | (refine W1 ?_) | (refine W2 (fun hc => ?_) (fun hc => ?_)) | (intro _))
      refine TX.ret_gen (rs := [.cell 2 24, .tmp 3]) (vs := [.agg #[.slice q.1 z.1.nodes.length q.2, .int .i64 z.1.root], .bool z.2]) rfl (.cell rfl (blk_res (cs := [.slice q.1 z.1.nodes.length q.2, .int .i64 z.1.root]) AtA rfl) (.tmp rfl .nil)) (fun w' hw => ?_)
      exact Ret.mk q trivial IncA hw
    · have hd1 : decide ((l.length : Int) = 1) = false := by simp; omega
      repeat' (first | (refine W1 ?_) | (refine W2 (fun hc => ?_) (fun hc => ?_)) | (intro _))
      refine T.callR rfl rfl (fun w' hw' => by have h := eof_any seqN0 (.slice none 0 0) _ l w' rfl (fun _ => by omega) seqN0_wf (St.old_trees hw' hr0) hl hwl hto (Tab.st hT hw'); rw [← hz] at h; exact h) (fun q _ => ?_)
      repeat' (first | (refine W1 ?_) | (refine W2 (fun hc => ?_) (fun hc => ?_)) | (intro _))
      refine TX.ret_gen (rs := [.cell 2 24, .tmp 3]) (vs := [.agg #[.slice q.1 z.1.nodes.length q.2, .int .i64 z.1.root], .bool z.2]) rfl (.cell rfl (blk_res (cs := [.slice q.1 z.1.nodes.length q.2, .int .i64 z.1.root]) AtA rfl) (.tmp rfl .nil)) (fun w' hw => ?_)
      exact Ret.mk q trivial IncA hw
theorem echoice_any (v : Value) (l : List Tre) (w : World) (hr : RTrees (Old w) w v l) (hl : l.length ≤ bigN) (hwl : ∀ t ∈ l, t.wf) (hto : tot l + 1 ≤ bigN) (hT : Tab w) : Calls Tryd.prog 57 #[v] w (RetTB w (putP choN0 l)) := by
  have hr0 := hr
  obtain ⟨A, c, rows0, rfl, hA, hrows, hc⟩ := hr
  refine TC.calls (l := [.slice A l.length c]) Tryd.func57 rfl Tryd.ntmps57 rfl (St.start w) ?_
  obtain ⟨z, hz⟩ : ∃ z, z = putP choN0 l := ⟨_, rfl⟩
  rw [← hz]
  by_cases h0 : l.length = 0
  · have hd0 : decide ((l.length : Int) = 0) = true := by simp [h0]
    have hln : l = [] := List.length_eq_zero_iff.1 h0
    have hz' : z = (⟨[setN0], 0⟩, true) := by rw [hz, hln]; rfl
    repeat' (first | (refine W1 ?_) | (refine W2 (fun hc => ?_) (fun hc => ?_)) | (intro _))
    refine T.callR rfl rfl (fun w' hw' => tree_set .zero w') (fun p _ => ?_)
    repeat' (first | (refine W1 ?_) | (refine W2 (fun hc => ?_) (fun hc => ?_)) | (intro _))
    rw [hz']
    refine TX.ret_gen (rs := [.cell 2 24, .tmp 3]) (vs := [.agg #[.slice p.1 1 p.2, .int .i64 0], .bool true]) rfl (.cell rfl (blk_res (cs := [.slice p.1 1 p.2, .int .i64 0]) AtA rfl) (.tmp rfl .nil)) (fun w' hw => ?_)
    exact Ret.mk p trivial IncA hw
  · have hd0 : decide ((l.length : Int) = 0) = false := by simp; exact fun h => h0 (by rw [h]; rfl)
    by_cases h1 : l.length = 1
    · have hd1 : decide ((l.length : Int) = 1) = true := by simp [h1]
      obtain ⟨x, hx⟩ := List.length_eq_one_iff.1 h1
      have hgx : l[0]? = some x := by rw [hx]; rfl
      obtain ⟨cs, hcs, K, kc, rfl, hK⟩ := hrows.get hgx
      have hwx := hwl x (by rw [hx]; simp)
      have hz' : z = makeP x := by rw [hz, hx]; exact put_one (by first | exact .inl rfl | exact .inr rfl) x
      have hA' : A = some (A.getD default) := hA.some_ (by omega)
      have hRx : RTree (Old w) w (.agg #[.slice K x.nodes.length kc, .int .i64 x.root]) x := ⟨_, rfl, hK⟩
      have hlt : 0 < l.length := by omega
      repeat' (first | (refine W1 ?_) | (refine W2 (fun hc => ?_) (fun hc => ?_)) | (intro _))
      refine T.callR rfl rfl (fun w' hw' => by have h := make_any _ x w' (St.old_tree hw' hRx) hwx (Tab.st hT hw'); rw [← hz'] at h; exact h) (fun q _ => ?_)
      repeat' (first | (refine W1 ?_) | (refine W2 (fun hc => ?_) (fun hc => ?_)) | (intro _))
      refine TX.ret_gen (rs := [.cell 2 24, .tmp 3]) (vs := [.agg #[.slice q.1 z.1.nodes.length q.2, .int .i64 z.1.root], .bool z.2]) rfl (.cell rfl (blk_res (cs := [.slice q.1 z.1.nodes.length q.2, .int .i64 z.1.root]) AtA rfl) (.tmp rfl .nil)) (fun w' hw => ?_)
      exact Ret.mk q trivial IncA hw
    · have hd1 : decide ((l.length : Int) = 1) = false := by simp; omega
      repeat' (first | (refine W1 ?_) | (refine W2 (fun hc => ?_) (fun hc => ?_)) | (intro _))
      refine T.callR rfl rfl (fun w' hw' => by have h := eof_any choN0 (.slice none 0 0) _ l w' rfl (fun _ => by omega) choN0_wf (St.old_trees hw' hr0) hl hwl hto (Tab.st hT hw'); rw [← hz] at h; exact h) (fun q _ => ?_)
      repeat' (first | (refine W1 ?_) | (refine W2 (fun hc => ?_) (fun hc => ?_)) | (intro _))
      refine TX.ret_gen (rs := [.cell 2 24, .tmp 3]) (vs := [.agg #[.slice q.1 z.1.nodes.length q.2, .int .i64 z.1.root], .bool z.2]) rfl (.cell rfl (blk_res (cs := [.slice q.1 z.1.nodes.length q.2, .int .i64 z.1.root]) AtA rfl) (.tmp rfl .nil)) (fun w' hw => ?_)
      exact Ret.mk q trivial IncA hw

end Go.Proofs.YtlhkkngpppcfoaaDoor
namespace Go.Bonsai
open Go Go.Sl Go.RowKit
theorem RTrees.sub1 {S : Nat → Prop} {w : World} {A : Option Addr} {c : Nat} {t : Tre} {l : List Tre} (hr : RTrees S w (.slice A (t :: l).length c) (t :: l)) :
    RTrees S w (.slice (if c = 1 then A else A.map (·.add (1 * 2))) ((t :: l).length - 1) (c - 1)) l := by
  obtain ⟨A', c', rows, e, h1, h2, h3⟩ := hr
  injection e with e1 e2 e3
  subst e1; subst e3
  have hlen : l.length = (t :: l).length - 1 := by simp
  have h4 := h1.sub (l := 1) (h := (t :: l).length) (c := c) (by simp) (Nat.le_refl _) h3
  refine ⟨_, _, (rows.drop 1).take ((t :: l).length - 1), by rw [← hlen], by rw [hlen]; exact h4, ?_, by omega⟩
  have h5 := (h2.drop 1).take ((t :: l).length - 1)
  have e5 : ((t :: l).drop 1).take ((t :: l).length - 1) = l := by simp
  rw [e5] at h5
  exact h5
theorem RTrees.cap {S : Nat → Prop} {w : World} {A : Option Addr} {n c : Nat} {l : List Tre} (h : RTrees S w (.slice A n c) l) : n ≤ c := by
  obtain ⟨A', c', rows, e, _, _, h3⟩ := h
  injection e with e1 e2 e3
  omega
def repN (a b : Int) : Nod := ⟨6, .zero, ⟨#[]⟩, a, b, []⟩
def andN0 : Nod := ⟨7, .zero, ⟨#[]⟩, 0, 0, []⟩
def notN0 : Nod := ⟨8, .zero, ⟨#[]⟩, 0, 0, []⟩
def capN (s : ByteArray) : Nod := ⟨9, .zero, s, 0, 0, []⟩
theorem repN_wf {a b : Int} (ha : I64 a) (hb : I64 b) : (repN a b).wf := ⟨by show 0 ≤ (6 : Int) ∧ (6 : Int) ≤ 255; decide, Nod.zero_wf.set, Nod.zero_wf.text, ha, hb, Nod.zero_wf.kids⟩
theorem andN0_wf : andN0.wf := plainN_wf (by decide) rfl rfl rfl rfl rfl
theorem notN0_wf : notN0.wf := plainN_wf (by decide) rfl rfl rfl rfl rfl
end Go.Bonsai
namespace Go.Proofs.YtlhkkngpppcfoaaDoor
open Go Go.Sl Go.RowKit Go.Bonsai
set_option linter.unusedVariables false
set_option linter.unusedSimpArgs false

theorem erep_any (v : Value) (t : Tre) (a b : Int) (ha : I64 a) (hb : I64 b) (w : World) (hr : RTree (Old w) w v t) (ht : t.wf) (htl : t.nodes.length < bigN) (hT : Tab w) : Calls Tryd.prog 66 #[ v, .int .i64 a, .int .i64 b] w (RetTB w (putP (repN a b) [t])) := by
  have hr0 := hr
  obtain ⟨nv, rfl, A, c, rows0, rfl, hA, hrows, hc⟩ := hr
  have hC1 : RTreeC (Old w) w [.slice A t.nodes.length c, .int .i64 t.root] t := ⟨A, c, rfl, A, c, rows0, rfl, hA, hrows, hc⟩
  refine TC.calls (l := [.agg #[.slice A t.nodes.length c, .int .i64 t.root], .int .i64 a, .int .i64 b]) Tryd.func66 rfl Tryd.ntmps66 rfl (St.start w) ?_
  obtain ⟨z, hz⟩ : ∃ z, z = putP (repN a b) [t] := ⟨_, rfl⟩
  rw [← hz]
  have hto : tot [t] + 1 ≤ bigN := by rw [tot_cons]; simp [tot]; omega
  have hwl : ∀ x ∈ [t], x.wf := by intro x hx; simp at hx; subst hx; exact ht
  repeat' (first | (refine W1 ?_) | (refine W2 (fun hc => ?_) (fun hc => ?_)) | (intro _))
  rename_i B
  refine T.callR rfl rfl (fun w' hw' => by have h := eof_any (repN a b) (.slice none 0 0) _ [t] w' rfl (fun h => by rcases h with h | h <;> cases h) (repN_wf ha hb) (RTrees.old1b hw' AtA hC1) (by unfold bigN; simp) hwl hto (Tab.st hT hw'); rw [← hz] at h; exact h) (fun q _ => ?_)
  repeat' (first | (refine W1 ?_) | (refine W2 (fun hc => ?_) (fun hc => ?_)) | (intro _))
  refine TX.ret_gen (rs := [.cell 6 24, .tmp (6 + 1)]) (vs := [.agg #[.slice q.1 z.1.nodes.length q.2, .int .i64 z.1.root], .bool z.2]) rfl (.cell rfl (blk_res (cs := [.slice q.1 z.1.nodes.length q.2, .int .i64 z.1.root]) AtA rfl) (.tmp rfl .nil)) (fun w' hw => ?_)
  exact Ret.mk q trivial IncA hw
theorem eand_any (v : Value) (t : Tre)  (w : World) (hr : RTree (Old w) w v t) (ht : t.wf) (htl : t.nodes.length < bigN) (hT : Tab w) : Calls Tryd.prog 68 #[ v] w (RetTB w (putP andN0 [t])) := by
  have hr0 := hr
  obtain ⟨nv, rfl, A, c, rows0, rfl, hA, hrows, hc⟩ := hr
  have hC1 : RTreeC (Old w) w [.slice A t.nodes.length c, .int .i64 t.root] t := ⟨A, c, rfl, A, c, rows0, rfl, hA, hrows, hc⟩
  refine TC.calls (l := [.agg #[.slice A t.nodes.length c, .int .i64 t.root]]) Tryd.func68 rfl Tryd.ntmps68 rfl (St.start w) ?_
  obtain ⟨z, hz⟩ : ∃ z, z = putP andN0 [t] := ⟨_, rfl⟩
  rw [← hz]
  have hto : tot [t] + 1 ≤ bigN := by rw [tot_cons]; simp [tot]; omega
  have hwl : ∀ x ∈ [t], x.wf := by intro x hx; simp at hx; subst hx; exact ht
  repeat' (first | (refine W1 ?_) | (refine W2 (fun hc => ?_) (fun hc => ?_)) | (intro _))
  rename_i B
  refine T.callR rfl rfl (fun w' hw' => by have h := eof_any andN0 (.slice none 0 0) _ [t] w' rfl (fun h => by rcases h with h | h <;> cases h) andN0_wf (RTrees.old1b hw' AtA hC1) (by unfold bigN; simp) hwl hto (Tab.st hT hw'); rw [← hz] at h; exact h) (fun q _ => ?_)
  repeat' (first | (refine W1 ?_) | (refine W2 (fun hc => ?_) (fun hc => ?_)) | (intro _))
  refine TX.ret_gen (rs := [.cell 2 24, .tmp (2 + 1)]) (vs := [.agg #[.slice q.1 z.1.nodes.length q.2, .int .i64 z.1.root], .bool z.2]) rfl (.cell rfl (blk_res (cs := [.slice q.1 z.1.nodes.length q.2, .int .i64 z.1.root]) AtA rfl) (.tmp rfl .nil)) (fun w' hw => ?_)
  exact Ret.mk q trivial IncA hw
theorem enot_any (v : Value) (t : Tre)  (w : World) (hr : RTree (Old w) w v t) (ht : t.wf) (htl : t.nodes.length < bigN) (hT : Tab w) : Calls Tryd.prog 70 #[ v] w (RetTB w (putP notN0 [t])) := by
  have hr0 := hr
  obtain ⟨nv, rfl, A, c, rows0, rfl, hA, hrows, hc⟩ := hr
  have hC1 : RTreeC (Old w) w [.slice A t.nodes.length c, .int .i64 t.root] t := ⟨A, c, rfl, A, c, rows0, rfl, hA, hrows, hc⟩
  refine TC.calls (l := [.agg #[.slice A t.nodes.length c, .int .i64 t.root]]) Tryd.func70 rfl Tryd.ntmps70 rfl (St.start w) ?_
  obtain ⟨z, hz⟩ : ∃ z, z = putP notN0 [t] := ⟨_, rfl⟩
  rw [← hz]
  have hto : tot [t] + 1 ≤ bigN := by rw [tot_cons]; simp [tot]; omega
  have hwl : ∀ x ∈ [t], x.wf := by intro x hx; simp at hx; subst hx; exact ht
  repeat' (first | (refine W1 ?_) | (refine W2 (fun hc => ?_) (fun hc => ?_)) | (intro _))
  rename_i B
  refine T.callR rfl rfl (fun w' hw' => by have h := eof_any notN0 (.slice none 0 0) _ [t] w' rfl (fun h => by rcases h with h | h <;> cases h) notN0_wf (RTrees.old1b hw' AtA hC1) (by unfold bigN; simp) hwl hto (Tab.st hT hw'); rw [← hz] at h; exact h) (fun q _ => ?_)
  repeat' (first | (refine W1 ?_) | (refine W2 (fun hc => ?_) (fun hc => ?_)) | (intro _))
  refine TX.ret_gen (rs := [.cell 2 24, .tmp (2 + 1)]) (vs := [.agg #[.slice q.1 z.1.nodes.length q.2, .int .i64 z.1.root], .bool z.2]) rfl (.cell rfl (blk_res (cs := [.slice q.1 z.1.nodes.length q.2, .int .i64 z.1.root]) AtA rfl) (.tmp rfl .nil)) (fun w' hw => ?_)
  exact Ret.mk q trivial IncA hw
theorem ecap_any (v : Value) (t : Tre) (s : ByteArray) (hs : (capN s).wf) (w : World) (hr : RTree (Old w) w v t) (ht : t.wf) (htl : t.nodes.length < bigN) (hT : Tab w) : Calls Tryd.prog 72 #[.string s,  v] w (RetTB w (putP (capN s) [t])) := by
  have hr0 := hr
  obtain ⟨nv, rfl, A, c, rows0, rfl, hA, hrows, hc⟩ := hr
  have hC1 : RTreeC (Old w) w [.slice A t.nodes.length c, .int .i64 t.root] t := ⟨A, c, rfl, A, c, rows0, rfl, hA, hrows, hc⟩
  refine TC.calls (l := [.string s, .agg #[.slice A t.nodes.length c, .int .i64 t.root]]) Tryd.func72 rfl Tryd.ntmps72 rfl (St.start w) ?_
  obtain ⟨z, hz⟩ : ∃ z, z = putP (capN s) [t] := ⟨_, rfl⟩
  rw [← hz]
  have hto : tot [t] + 1 ≤ bigN := by rw [tot_cons]; simp [tot]; omega
  have hwl : ∀ x ∈ [t], x.wf := by intro x hx; simp at hx; subst hx; exact ht
  repeat' (first | (refine W1 ?_) | (refine W2 (fun hc => ?_) (fun hc => ?_)) | (intro _))
  rename_i B
  refine T.callR rfl rfl (fun w' hw' => by have h := eof_any (capN s) (.slice none 0 0) _ [t] w' rfl (fun h => by rcases h with h | h <;> cases h) hs (RTrees.old1b hw' AtA hC1) (by unfold bigN; simp) hwl hto (Tab.st hT hw'); rw [← hz] at h; exact h) (fun q _ => ?_)
  repeat' (first | (refine W1 ?_) | (refine W2 (fun hc => ?_) (fun hc => ?_)) | (intro _))
  refine TX.ret_gen (rs := [.cell 4 24, .tmp (4 + 1)]) (vs := [.agg #[.slice q.1 z.1.nodes.length q.2, .int .i64 z.1.root], .bool z.2]) rfl (.cell rfl (blk_res (cs := [.slice q.1 z.1.nodes.length q.2, .int .i64 z.1.root]) AtA rfl) (.tmp rfl .nil)) (fun w' hw => ?_)
  exact Ret.mk q trivial IncA hw

theorem ehead_any (v : Value) (t : Tre) (w : World) (hr : RTree (Old w) w v t) (ht : t.wf) (hT : Tab w) : Calls Tryd.prog 74 #[v] w (RetTB w (headP t)) := by
  have hr0 := hr
  obtain ⟨nv, rfl, A, c, rows0, rfl, hA, hrows, hc⟩ := hr
  refine TC.calls (l := [.agg #[.slice A t.nodes.length c, .int .i64 t.root]]) Tryd.func74 rfl Tryd.ntmps74 rfl (St.start w) ?_
  obtain ⟨l, hl⟩ : ∃ l, partsP t = l := ⟨_, rfl⟩
  have hcall : ∀ {L : List HP} w', St w L w' → Calls Tryd.prog 59 #[.agg #[.slice A t.nodes.length c, .int .i64 t.root]] w' (RetTs w' l) := fun w' hw' => by
    have h := eparts_any _ t w' (St.old_tree hw' hr0) ht (Tab.st hT hw')
    rw [hl] at h
    exact h
  cases l with
  | nil =>
    have hh : headP t = (.zero, false) := by unfold headP; rw [hl]
    have hd : decide ((([] : List Tre).length : Int) = 0) = true := by simp
    rw [hh]
    repeat' (first | (refine W1 ?_) | (refine W2 (fun hc => ?_) (fun hc => ?_)) | (intro _))
    refine T.callR rfl rfl hcall (fun p _ => ?_)
    repeat' (first | (refine W1 ?_) | (refine W2 (fun hc => ?_) (fun hc => ?_)) | (intro _))
    refine TX.ret_gen (rs := [.cell 2 24, .tmp 3]) (vs := [.agg #[.slice none 0 0, .int .i64 0], .bool false]) rfl (.cell rfl (blk_res (cs := [.slice none 0 0, .int .i64 0]) AtA rfl) (.tmp rfl .nil)) (fun w' hw => ?_)
    have h1 := St.push (H := hNodes (.slice none 0 0) []) hw Chg.refl hNodes_nil
    exact Ret.mk ((none : Option Addr), 0) trivial (.cons .here .nil) h1
  | cons x l =>
    have hh : headP t = (x, true) := by unfold headP; rw [hl]
    have hd : decide (((x :: l).length : Int) = 0) = false := by simp; omega
    have hlx : 0 < (x :: l).length := by simp
    rw [hh]
    repeat' (first | (refine W1 ?_) | (refine W2 (fun hc => ?_) (fun hc => ?_)) | (intro _))
    refine T.callR rfl rfl hcall (fun p _ => ?_)
    refine T.ex (fun w hw => St.openTO (A := p.1) (c := p.2) (ts := x :: l) DelA hw) (fun y => ?_)
    obtain ⟨e, rows⟩ := y
    refine T.ex (fun w hw => St.openTR1 (rows := rows) (t := x) (ts := l) DelA hw) (fun y => ?_)
    obtain ⟨⟨⟨Ax, cx⟩, rs⟩, hrs⟩ := y
    dsimp only at hrs ⊢
    subst hrs
    refine T.fact (φ := p.1 = some (p.1.getD default)) (fun w hw => (St.own_arr (A := p.1) (n := (x :: l).length) (c := p.2) (rows := [.slice Ax x.nodes.length cx, .int .i64 x.root] :: rs) hw AtA).some_ hlx) (fun hA => ?_)
    generalize (x :: l).length = N at *
    repeat' (first | (refine W1 ?_) | (refine W2 (fun hc => ?_) (fun hc => ?_)) | (intro _))
    refine TX.ret_gen (rs := [.cell 2 24, .tmp 3]) (vs := [.agg #[.slice Ax x.nodes.length cx, .int .i64 x.root], .bool true]) rfl (.cell rfl (blk_res (cs := [.slice Ax x.nodes.length cx, .int .i64 x.root]) AtA rfl) (.tmp rfl .nil)) (fun w' hw => ?_)
    exact Ret.mk (Ax, cx) trivial IncA hw
theorem etail_any (v : Value) (t : Tre) (w : World) (hr : RTree (Old w) w v t) (ht : t.wf) (htl : t.nodes.length < bigN) (hT : Tab w) : Calls Tryd.prog 75 #[v] w (RetTB w (tailP t)) := by
  have hr0 := hr
  obtain ⟨nv, rfl, A, c, rows0, rfl, hA, hrows, hc⟩ := hr
  refine TC.calls (l := [.agg #[.slice A t.nodes.length c, .int .i64 t.root]]) Tryd.func75 rfl Tryd.ntmps75 rfl (St.start w) ?_
  obtain ⟨hto, hlo⟩ := partsP_tot t
  have hwp := partsP_wf ht
  obtain ⟨l, hl⟩ : ∃ l, partsP t = l := ⟨_, rfl⟩
  rw [hl] at hto hlo hwp
  have hcall : ∀ {L : List HP} w', St w L w' → Calls Tryd.prog 59 #[.agg #[.slice A t.nodes.length c, .int .i64 t.root]] w' (RetTs w' l) := fun w' hw' => by
    have h := eparts_any _ t w' (St.old_tree hw' hr0) ht (Tab.st hT hw')
    rw [hl] at h
    exact h
  cases l with
  | nil =>
    have hh : tailP t = (.zero, false) := by unfold tailP; rw [hl]
    have hd : decide ((([] : List Tre).length : Int) = 0) = true := by simp
    rw [hh]
    repeat' (first | (refine W1 ?_) | (refine W2 (fun hc => ?_) (fun hc => ?_)) | (intro _))
    refine T.callR rfl rfl hcall (fun p _ => ?_)
    repeat' (first | (refine W1 ?_) | (refine W2 (fun hc => ?_) (fun hc => ?_)) | (intro _))
    refine TX.ret_gen (rs := [.cell 2 24, .tmp 3]) (vs := [.agg #[.slice none 0 0, .int .i64 0], .bool false]) rfl (.cell rfl (blk_res (cs := [.slice none 0 0, .int .i64 0]) AtA rfl) (.tmp rfl .nil)) (fun w' hw => ?_)
    have h1 := St.push (H := hNodes (.slice none 0 0) []) hw Chg.refl hNodes_nil
    exact Ret.mk ((none : Option Addr), 0) trivial (.cons .here .nil) h1
  | cons x l =>
    obtain ⟨z, hz⟩ : ∃ z, z = putP seqN0 l := ⟨_, rfl⟩
    have hh : tailP t = z := by unfold tailP; rw [hl, hz]
    have hd : decide (((x :: l).length : Int) = 0) = false := by simp; omega
    have hlx : 0 < (x :: l).length := by simp
    rw [tot_cons] at hto
    rw [List.length_cons] at hlo
    rw [hh]
    repeat' (first | (refine W1 ?_) | (refine W2 (fun hc => ?_) (fun hc => ?_)) | (intro _))
    refine T.callR rfl rfl hcall (fun p _ => ?_)
    refine T.fact (fun w hw => RTrees.cap (hTrees_on (St.at_all (H := hTrees (.slice p.1 (x :: l).length p.2) (x :: l)) AtA hw))) (fun hcap => ?_)
    repeat' (first | (refine W1 ?_) | (refine W2 (fun hc => ?_) (fun hc => ?_)) | (intro _))
    apply T.ev_; exact rfl; exact Ev.slice_slice (l := 1) (h := (x :: l).length) rfl (.inr ⟨_, _, rfl, rfl⟩) (.inl ⟨rfl, rfl⟩) (by omega) hcap
    refine T.callR rfl rfl (fun w' hw' => by have h := eseq_any _ l w' (RTrees.sub1 (hTrees_on (St.at_all (H := hTrees (.slice p.1 (x :: l).length p.2) (x :: l)) AtA hw'))) (by omega) (fun y hy => hwp y (by simp [hy])) (by omega) (Tab.st hT hw'); rw [← hz] at h; exact h) (fun q _ => ?_)
    repeat' (first | (refine W1 ?_) | (refine W2 (fun hc => ?_) (fun hc => ?_)) | (intro _))
    refine TX.ret_gen (rs := [.cell 2 24, .tmp 3]) (vs := [.agg #[.slice q.1 z.1.nodes.length q.2, .int .i64 z.1.root], .bool z.2]) rfl (.cell rfl (blk_res (cs := [.slice q.1 z.1.nodes.length q.2, .int .i64 z.1.root]) AtA rfl) (.tmp rfl .nil)) (fun w' hw => ?_)
    exact Ret.mk q trivial IncA hw

theorem enormal_any (v : Value) (t : Tre) (w : World) (hr : RTree (Old w) w v t) (ht : t.wf) (hT : Tab w) : Calls Tryd.prog 76 #[v] w (RetV w (.bool (normalP t))) := by
  have hr0 := hr
  obtain ⟨nv, rfl, A, c, rows0, rfl, hA, hrows, hc⟩ := hr
  have hlen := ht.len
  unfold bigN at hlen
  refine TC.calls (l := [.agg #[.slice A t.nodes.length c, .int .i64 t.root]]) Tryd.func76 rfl Tryd.ntmps76 rfl (St.start w) ?_
  cases hri : rightP t with
  | false =>
    have hrin : (!rightP t) = true := by rw [hri]; rfl
    rw [normalP_no hri]
    repeat' (first | (refine W1 ?_) | (refine W2 (fun hc => ?_) (fun hc => ?_)) | (intro _))
    refine T.callV rfl rfl (fun w' hw' => right_any _ t w' (St.old_tree hw' hr0) ht (Tab.st hT hw')) ?_
    repeat' (first | (refine W1 ?_) | (refine W2 (fun hc => ?_) (fun hc => ?_)) | (intro _))
    exact TX.ret_tmp rfl rfl (fun w' hw => RetV.eq hw rfl)
  | true =>
    have hrin : (!rightP t) = false := by rw [hri]; rfl
    have hR := rightP_spec hri
    have hN : normalP t = t.nodes.all (normN t.nodes) := by unfold normalP; rw [hri]; rfl
    rw [hN]
    repeat' (first | (refine W1 ?_) | (refine W2 (fun hc => ?_) (fun hc => ?_)) | (intro _))
    rename_i b1
    refine T.callV rfl rfl (fun w' hw' => right_any _ t w' (St.old_tree hw' hr0) ht (Tab.st hT hw')) ?_
    repeat' (first | (refine W1 ?_) | (refine W2 (fun hc => ?_) (fun hc => ?_)) | (intro _))
    refine TC.loopA (ι := Nat) 0 (fun k r => (14, .int .i64 k) :: r) (fun _ => St w [blk b1 [.slice A t.nodes.length c, .int .i64 t.root] 24]) (fun k => k ≤ t.nodes.length ∧ (t.nodes.take k).all (normN t.nodes) = true) (fun k => t.nodes.length - k) KpA SubA (fun w' hw => hw) ⟨Nat.zero_le _, rfl⟩ ?_
    rintro i ⟨hi, hall⟩
    by_cases hlt : i < t.nodes.length
    · have hck : decide ((i : Int) < (t.nodes.length : Int)) = true := by simp [hlt]
      have hns : t.nodes[i]? = some t.nodes[i] := List.getElem?_eq_getElem hlt
      obtain ⟨cs, hcs, kv, rfl, K, kc, rfl, hK, hkc⟩ := hrows.get hns
      have hko := hR.kok i _ hns
      have hwn := ht.nodes _ (List.getElem_mem hlt)
      have hstep : normN t.nodes t.nodes[i] = true → (t.nodes.take (i + 1)).all (normN t.nodes) = true := fun h => by
        rw [List.take_succ_eq_append_getElem hlt, List.all_append, hall]; simpa using h
      have hstop : normN t.nodes t.nodes[i] = false → t.nodes.all (normN t.nodes) = false := fun h => by
        rw [List.all_eq_false]; exact ⟨_, List.getElem_mem hlt, by rw [h]; simp⟩
      generalize t.nodes[i] = n at *
      have hA' : A = some (A.getD default) := hA.some_ (by omega)
      have hkl := hwn.kids.1
      unfold bigL at hkl
      by_cases h45 : n.kind = 4 ∨ n.kind = 5
      · repeat' (first | (refine TC.hold 6 ?_) | (refine W1 ?_) | (refine W2 (fun hc => ?_) (fun hc => ?_)) | (intro _))
        rename_i b4
        refine ⟨TC.cutA (ι := Unit) (fun _ r => r) (fun _ => St w [blk b4 (n.cells (.slice K n.kids.length kc)) 34, blk b1 [.slice A t.nodes.length c, .int .i64 t.root] 24]) KpA ?_ (fun _ => ?_)⟩
        · rcases h45 with h4 | h5
          · have e4 : (!decide (n.kind = 4)) = false := by simp [h4]
            repeat' (first | (refine W1 ?_) | (refine W2 (fun hc => ?_) (fun hc => ?_)) | (intro _))
            exact TX.join () SubA (fun _ h => h)
          · have e4 : (!decide (n.kind = 4)) = true := by simp [h5]
            have e5 : (!decide (n.kind = 5)) = false := by simp [h5]
            repeat' (first | (refine W1 ?_) | (refine W2 (fun hc => ?_) (fun hc => ?_)) | (intro _))
            exact TX.join () SubA (fun _ h => h)
        have hnn : normN t.nodes n = n.kids.all fun k => !(decide (kindA t.nodes k = n.kind) || (decide (kindA t.nodes k = 0) && decide (n.kind = 4))) := by
          unfold normN
          rcases h45 with h | h <;> simp [h]
        rw [hnn] at hstep hstop
        repeat' (first | (refine W1 ?_) | (refine W2 (fun hc => ?_) (fun hc => ?_)) | (intro _))
        refine TC.loopA (ι := Nat) 0 (fun k r => (29, .int .i64 k) :: r) (fun _ => St w [blk b4 (n.cells (.slice K n.kids.length kc)) 34, blk b1 [.slice A t.nodes.length c, .int .i64 t.root] 24]) (fun j => j ≤ n.kids.length ∧ ((n.kids.take j).all fun k => !(decide (kindA t.nodes k = n.kind) || (decide (kindA t.nodes k = 0) && decide (n.kind = 4)))) = true) (fun j => n.kids.length - j) KpA SubA (fun w' hw => hw) ⟨Nat.zero_le _, rfl⟩ ?_
        rintro j ⟨hj, hallj⟩
        by_cases hjl : j < n.kids.length
        · have hcj : decide ((j : Int) < (n.kids.length : Int)) = true := by simp [hjl]
          have hjk : n.kids[j]? = some n.kids[j] := List.getElem?_eq_getElem hjl
          have hy0 := hko _ (List.getElem_mem hjl)
          have hstepj : (!(decide (kindA t.nodes n.kids[j] = n.kind) || (decide (kindA t.nodes n.kids[j] = 0) && decide (n.kind = 4)))) = true → ((n.kids.take (j + 1)).all fun k => !(decide (kindA t.nodes k = n.kind) || (decide (kindA t.nodes k = 0) && decide (n.kind = 4)))) = true := fun h => by
            rw [List.take_succ_eq_append_getElem hjl, List.all_append, hallj]; simpa using h
          have hstopj : (!(decide (kindA t.nodes n.kids[j] = n.kind) || (decide (kindA t.nodes n.kids[j] = 0) && decide (n.kind = 4)))) = false → t.nodes.all (normN t.nodes) = false := fun h => hstop (by
            rw [List.all_eq_false]; exact ⟨_, List.getElem_mem hjl, by rw [h]; simp⟩)
          generalize n.kids[j] = y at *
          obtain ⟨y, rfl⟩ : ∃ z : Nat, y = z := ⟨y.toNat, by omega⟩
          have hyl : y < t.nodes.length := by omega
          have hys : t.nodes[y]? = some t.nodes[y] := List.getElem?_eq_getElem hyl
          obtain ⟨cs', hcs', kv', rfl, K', kc', rfl, _, _⟩ := hrows.get hys
          rw [kindA_get hys] at hstepj hstopj
          generalize t.nodes[y] = m at *
          have hK' : K = some (K.getD default) := hK.some_ (by omega)
          by_cases q1 : m.kind = n.kind
          · have d1 : decide (m.kind = n.kind) = true := by simp [q1]
            rw [hstopj (by rw [d1]; rfl)]
            repeat' (first | (refine W1 ?_) | (refine W2 (fun hc => ?_) (fun hc => ?_)) | (intro _))
            exact TX.ret_tmp rfl rfl (fun w' hw => RetV.eq hw rfl)
          · have d1 : decide (m.kind = n.kind) = false := by simp [q1]
            by_cases q2 : m.kind = 0
            · have d2 : decide (m.kind = 0) = true := by simp [q2]
              by_cases q3 : n.kind = 4
              · have d3 : decide (n.kind = 4) = true := by simp [q3]
                rw [hstopj (by rw [d1, d2, d3]; rfl)]
                repeat' (first | (refine W1 ?_) | (refine W2 (fun hc => ?_) (fun hc => ?_)) | (intro _))
                exact TX.ret_tmp rfl rfl (fun w' hw => RetV.eq hw rfl)
              · have d3 : decide (n.kind = 4) = false := by simp [q3]
                have g := hstepj (by rw [d1, d2, d3]; rfl)
                repeat' (first | (refine W1 ?_) | (refine W2 (fun hc => ?_) (fun hc => ?_)) | (intro _))
                exact TX.round (j + 1) ⟨hjl, g⟩ (by omega) SubA (fun w' hw => hw)
            · have d2 : decide (m.kind = 0) = false := by simp [q2]
              have g := hstepj (by rw [d1, d2]; rfl)
              repeat' (first | (refine W1 ?_) | (refine W2 (fun hc => ?_) (fun hc => ?_)) | (intro _))
              exact TX.round (j + 1) ⟨hjl, g⟩ (by omega) SubA (fun w' hw => hw)
        · have hcj : decide ((j : Int) < (n.kids.length : Int)) = false := by simp; omega
          rw [List.take_of_length_le (by omega)] at hallj
          have g := hstep hallj
          repeat' (first | (refine W1 ?_) | (refine W2 (fun hc => ?_) (fun hc => ?_)) | (intro _))
          exact TX.round (i + 1) ⟨hlt, g⟩ (by omega) SubA (fun w' hw => St.inc IncQ hw)
      · have e4 : (!decide (n.kind = 4)) = true := by simp; exact fun h => h45 (.inl h)
        have e5 : (!decide (n.kind = 5)) = true := by simp; exact fun h => h45 (.inr h)
        have g := hstep (by unfold normN; rw [decide_eq_false (fun h => h45 (.inl h)), decide_eq_false (fun h => h45 (.inr h))]; rfl)
        repeat' (first | (refine W1 ?_) | (refine W2 (fun hc => ?_) (fun hc => ?_)) | (intro _))
        exact TX.round (i + 1) ⟨hlt, g⟩ (by omega) SubA (fun w' hw => St.inc IncQ hw)
    · have hck : decide ((i : Int) < (t.nodes.length : Int)) = false := by simp; omega
      rw [List.take_of_length_le (by omega)] at hall
      rw [hall]
      repeat' (first | (refine W1 ?_) | (refine W2 (fun hc => ?_) (fun hc => ?_)) | (intro _))
      exact TX.ret_tmp rfl rfl (fun w' hw => RetV.eq hw rfl)
end Go.Proofs.YtlhkkngpppcfoaaDoor
