/-
  General tools: searches in long lists of pieces, calls of function values, regions whose order is drawn.
-/
import Derived.Test.YtalnmednhhimhaaDoorBranch
import Derived.Test.YtalnmednhhimhaaDoorWalkT
import Derived.Test.YtalnmednhhimhaaDoorOps2
import Derived.Test.YtalnmednhhimhaaDoorHelp
set_option linter.all false
namespace Go.Sl
open Go.RowKit
theorem Inc.refl : ∀ L : List HP, Inc L L
  | [] => .nil
  | _ :: L => .cons .here (Inc.refl L)
theorem Inc.skip {H : HP} {L L' : List HP} (h : Inc L L') : Inc (H :: L) L' := by
  induction h with
  | nil => exact .nil
  | cons d _ ih => exact .cons (.there d) ih
theorem IncS {L L' : List HP} (h : Inc L L' := by repeat' (first | exact Inc.refl _ | exact Inc.nil | refine Inc.cons DelA ?_ | apply Inc.skip)) : Inc L L' := h
theorem DelR {L L' : List HP} {H : HP} (h : Del L H L' := by first | with_reducible exact Del.here | with_reducible exact (Del.there Del.here) | with_reducible exact (Del.there (Del.there Del.here)) | with_reducible exact (Del.there (Del.there (Del.there Del.here))) | with_reducible exact (Del.there (Del.there (Del.there (Del.there Del.here)))) | with_reducible exact (Del.there (Del.there (Del.there (Del.there (Del.there Del.here))))) | with_reducible exact (Del.there (Del.there (Del.there (Del.there (Del.there (Del.there Del.here)))))) | with_reducible exact (Del.there (Del.there (Del.there (Del.there (Del.there (Del.there (Del.there Del.here))))))) | with_reducible exact (Del.there (Del.there (Del.there (Del.there (Del.there (Del.there (Del.there (Del.there Del.here)))))))) | with_reducible exact (Del.there (Del.there (Del.there (Del.there (Del.there (Del.there (Del.there (Del.there (Del.there Del.here))))))))) | with_reducible exact (Del.there (Del.there (Del.there (Del.there (Del.there (Del.there (Del.there (Del.there (Del.there (Del.there Del.here)))))))))) | with_reducible exact (Del.there (Del.there (Del.there (Del.there (Del.there (Del.there (Del.there (Del.there (Del.there (Del.there (Del.there Del.here))))))))))) | with_reducible exact (Del.there (Del.there (Del.there (Del.there (Del.there (Del.there (Del.there (Del.there (Del.there (Del.there (Del.there (Del.there Del.here)))))))))))) | with_reducible exact (Del.there (Del.there (Del.there (Del.there (Del.there (Del.there (Del.there (Del.there (Del.there (Del.there (Del.there (Del.there (Del.there Del.here))))))))))))) | with_reducible exact (Del.there (Del.there (Del.there (Del.there (Del.there (Del.there (Del.there (Del.there (Del.there (Del.there (Del.there (Del.there (Del.there (Del.there Del.here)))))))))))))) | with_reducible exact (Del.there (Del.there (Del.there (Del.there (Del.there (Del.there (Del.there (Del.there (Del.there (Del.there (Del.there (Del.there (Del.there (Del.there (Del.there Del.here)))))))))))))))) : Del L H L' := h
theorem IncQ {L L' : List HP} (h : Inc L L' := by first | ((repeat' (first | with_reducible exact Inc.refl _ | with_reducible exact Inc.nil | (with_reducible apply Inc.cons; (exact DelR)) | (with_reducible apply Inc.skip))); done) | (dsimp only; ((repeat' (first | with_reducible exact Inc.refl _ | with_reducible exact Inc.nil | (with_reducible apply Inc.cons; (exact DelR)) | (with_reducible apply Inc.skip))); done)) | (repeat' (first | exact Inc.refl _ | exact Inc.nil | (apply Inc.cons; (exact DelA)) | apply Inc.skip))) : Inc L L' := h
section
variable {P : Program} {ops : Array Oper} {Q : Exit → Act → World → Prop} {rest : List Oper} {n : FD} {s : Sg} {pos : String} {af : Array Edge} {d : Nat} {ty : TypeId} {w0 : World} {L : List HP}
/-- a call of a function value with what it has captured -/
theorem op_callF {f : FuncId} {x : Nat} {xs : List Operand} {vs cap : List Value} {tys : Array TypeId} [hf' : CF P f] (hx : lk s x = some (.func (.func f) #[] cap.toArray)) (hxs : evs s xs = some vs) {a : Act} {w : World} {o : Oper}
    (ho : o.op = .call { callee := .value (.tmp x), args := xs.toArray, argTypes := tys }) (hf : Fr n s a) : (execOp a.eval o).run P w = .ok (.enter f (vs ++ cap).toArray) w := by
  have h1 := evs_eq hf hxs
  have h2 := hf.ev (x := .tmp x) hx
  simp [execOp, ho, resolve, Deferred.ofValue, h2, invoke, hf'.run _ w, ← h1]
theorem T.callFM {ι : Sort _} {val : ι → Value} {LL : ι → List HP} {f : FuncId} {x : Nat} {xs : List Operand} {vs cap : List Value} {tys : Array TypeId} (hd : Nat.blt d n.sz = true) [hf' : CF P f] (hx : lk s x = some (.func (.func f) #[] cap.toArray)) (hxs : evs s xs = some vs)
    (h : ∀ w, St w0 L w → Calls P f (vs ++ cap).toArray w (fun e w' => ∃ x, e = .returned (val x) ∧ St w0 (LL x) w'))
    (k : ∀ x, T P ops Q rest n ((d, val x) :: s) (St w0 (LL x))) :
    T P ops Q (⟨some d, .call { callee := .value (.tmp x), args := xs.toArray, argTypes := tys }, ty, pos, af, none⟩ :: rest) n s (St w0 L) :=
  T.cl hd ⟨f, (vs ++ cap).toArray, fun a w o ho _ hf _ => op_callF hx hxs ho hf, h⟩ k
end
end Go.Sl
namespace Go.Sl
section
variable {P : Program} {ops : Array Oper} {Q : Exit → Act → World → Prop} {rest : List Oper} {n : FD} {s : Sg} {pos : String} {af : Array Edge} {d : Nat} {ty : TypeId} {w0 : World} {L : List HP} {C : World → Prop} {M : World → Prop}
/-- a drawn region whose base condition is named -/
theorem TC.lexC {id : Nat} {l : List Oper} (C : World → Prop) (ovr : List (Nat × Kd)) (hm : P.follows .mixedOrders = true) (hok : lexOk l.toArray (kds l ovr) = true) (k : TL P C l.toArray (kds l ovr) Q 0 l n s (St w0 L)) : TC P (.region id l.toArray true) Q n s (St w0 L) := by
  refine ⟨fun a w hf hw => wp_region_lex (C := C) hm hok ?_⟩
  have := k.go a w.drew hf hw.drew
  rw [wpLexL_eq l 0 (by simp)] at this
  rw [List.range_eq_range']
  simpa using this
theorem Cl.callFM {ι : Sort _} {val : ι → Value} {LL : ι → List HP} {f : FuncId} {x : Nat} {xs : List Operand} {vs cap : List Value} {tys : Array TypeId} (hf' : CF P f) (hx : lk s x = some (.func (.func f) #[] cap.toArray)) (hxs : evs s xs = some vs)
    (h : ∀ w, St w0 L w → Calls P f (vs ++ cap).toArray w (fun e w' => ∃ x, e = .returned (val x) ∧ St w0 (LL x) w')) :
    Cl P n s (St w0 L) (.call { callee := .value (.tmp x), args := xs.toArray, argTypes := tys }) ty val (fun x => St w0 (LL x)) :=
  ⟨f, (vs ++ cap).toArray, fun a w o ho _ hf _ => op_callF hx hxs ho hf, h⟩
end
end Go.Sl
namespace Go.Sl
theorem AtR {L : List HP} {H : HP} (h : At L H := by (try simp only [List.cons_append, List.nil_append]); repeat (first | with_reducible exact At.here | with_reducible apply At.there)) : At L H := h
theorem IncB {L L' : List HP} (h : Inc L L' := by (try simp only [List.cons_append, List.nil_append]); repeat (first | with_reducible exact Inc.refl _ | apply Inc.skip)) : Inc L L' := h
section
variable {P : Program} {C : World → Prop} {ops : Array Oper} {Q : Exit → Act → World → Prop} {n : FD} {s : Sg} {M : World → Prop}
/-- kinds, by the operations that are left -/
def kfo : List Oper → Nat → Kd
  | [], _ => .loud
  | o :: _, 0 => kdOf o
  | _ :: l, i + 1 => kfo l i
theorem wpLexL_sh (o : Oper) (l : List Oper) : ∀ (rest : List Oper) (i : Nat), wpLexL P C ops (kfo (o :: l)) Q (i + 1) rest = wpLexL P C ops (kfo l) Q i rest
  | [], _ => rfl
  | q :: r, i => by
    simp only [wpLexL]
    rw [wpLexL_sh o l r (i + 1)]
    rfl
theorem TL.sh {o : Oper} {l rest : List Oper} {i : Nat} (k : TL P C ops (kfo l) Q i rest n s M) : TL P C ops (kfo (o :: l)) Q (i + 1) rest n s M :=
  ⟨fun a w hf hm => by rw [wpLexL_sh]; exact k.go a w hf hm⟩
theorem kfo_get : ∀ (l : List Oper) (i : Nat), kfo l i = match l[i]? with
    | some o => kdOf o
    | none => .loud
  | [], i => by simp [kfo]
  | o :: l, 0 => rfl
  | o :: l, i + 1 => by rw [kfo, kfo_get l i]; simp
theorem pk_range (l : List Oper) : pk l (List.range l.length) = l := by
  unfold pk
  apply List.ext_getElem?
  intro i
  rw [List.getElem?_map]
  by_cases h : i < l.length
  · rw [List.getElem?_range h]
    simp [h]
  · simp [h]
theorem kr_range (l : List Oper) (i : Nat) (h : i < l.length) : kr (kds l []) (List.range l.length) i = kfo l i := by
  unfold kr kds
  rw [kfo_get]
  simp [h]
theorem wpLexL_ks {ks ks' : Nat → Kd} : ∀ (rest : List Oper) (i : Nat), (∀ j, i ≤ j → j < i + rest.length → ks j = ks' j) → wpLexL P C ops ks Q i rest = wpLexL P C ops ks' Q i rest
  | [], _, _ => rfl
  | o :: r, i, h => by
    simp only [wpLexL]
    rw [h i (Nat.le_refl _) (by simp), wpLexL_ks r (i + 1) (fun j h1 h2 => h j (by omega) (by simp at h2 ⊢; omega))]
/-- all operations, in the text's order -/
theorem TT.all {l : List Oper} {r : List Nat} {t : Tr} (hr : Nat.beq r.length l.length = true) (hr2 : r = List.range r.length) (k : TL P C l.toArray (kfo l) (fun _ => wpT P C l.toArray (kds l []) Q t) 0 l n s M) : TT P C l (kds l []) Q (.seg r t) n s M := by
  have e : r.length = l.length := Nat.eq_of_beq_eq_true hr
  rw [e] at hr2
  subst hr2
  refine TT.seg (by simp [Nat.blt_eq]) ⟨fun a w hf hm => ?_⟩
  have := k.go a w hf hm
  rw [pk_range]
  rwa [wpLexL_ks (ks' := kfo l) l 0 (fun j _ h2 => kr_range l j (by simpa using h2))]
end
theorem St.base {w0 : World} {L L' : List HP} (h : Inc L L') : ∀ w, St w0 L w → St w0 L' w := fun _ hw => St.inc h hw
end Go.Sl
namespace Go.Sl
theorem TC.few {P : Program} {c : Code} {Q : Exit → Act → World → Prop} {n : FD} {s : Sg} {M : World → Prop} (s' : Sg) (hs : Sub s' s) (k : TC P c Q n s' M) : TC P c Q n s M := ⟨fun a w hf hm => k.go a w (hf.sub hs) hm⟩
section
variable {P : Program} {C : World → Prop} {l : List Oper} {ks : Nat → Kd} {Q : Exit → Act → World → Prop} {n : FD} {s : Sg} {M : World → Prop} {t : Tr}
theorem TT.abs (h : ∀ F : Tr → Sg → (World → Prop) → Prop, (∀ t s M, F t s M → TT P C l ks Q t n s M) → (∀ t s M, TT P C l ks Q t n s M → F t s M) → F t s M) : TT P C l ks Q t n s M :=
  h (fun t s M => TT P C l ks Q t n s M) (fun _ _ _ h => h) (fun _ _ _ h => h)
theorem TT.few {s' : Sg} {M' : World → Prop} (k : TT P C l ks Q t n s' M') (hs : Sub s' s) (hM : ∀ w, M w → M' w) : TT P C l ks Q t n s M := ⟨fun a w hf hm => k.go a w (hf.sub hs) (hM w hm)⟩
theorem wpLex_app {ops : Array Oper} {Q : Exit → Act → World → Prop} (r2 : List Nat) : ∀ r1 : List Nat, wpLex P C ops ks Q (r1 ++ r2) = wpLex P C ops ks (fun _ => wpLex P C ops ks Q r2) r1
  | [] => rfl
  | i :: r => by
    show opI P C ops ks i (wpLex P C ops ks Q (r ++ r2)) = opI P C ops ks i (wpLex P C ops ks (fun _ => wpLex P C ops ks Q r2) r)
    rw [wpLex_app r2 r]
theorem TT.cut2 {r1 r2 : List Nat} (k : TT P C l ks Q (.seg r1 (.seg r2 t)) n s M) : TT P C l ks Q (.seg (r1 ++ r2) t) n s M := by
  refine ⟨fun a w hf hm => ?_⟩
  have h1 := k.go a w hf hm
  show wpLex P C l.toArray ks (fun _ => wpT P C l.toArray ks Q t) (r1 ++ r2) a w
  rw [wpLex_app]
  exact h1
end
end Go.Sl
