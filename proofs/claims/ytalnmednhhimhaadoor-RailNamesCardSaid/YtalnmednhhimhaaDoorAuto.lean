/-
  Loops whose unturned slots are found by themselves.
-/
import Derived.Test.YtalnmednhhimhaaDoorWalk
set_option linter.all false
namespace Go.Sl
open Go.RowKit
set_option linter.unusedVariables false

def memN (k : Nat) : List Nat → Bool
  | [] => false
  | x :: l => bif Nat.beq x k then true else memN k l
def asgO : List Oper → List Nat
  | [] => []
  | o :: l => match o.dst with
    | some d => d :: asgO l
    | none => asgO l
/-- the slots that a piece of code assigns -/
def asg : Code → List Nat → List Nat
  | .region _ ops _, r => asgO ops.toList ++ r
  | .seq a b, r => asg a (asg b r)
  | .cond _ a b, r => asg a (asg b r)
  | .block _ c, r => asg c r
  | .loop c, r => asg c r
  | .scope c, r => asg c r
  | .rangeFunc _ p a b, r => p.toList ++ asg a (asg b r)
  | _, r => r
/-- of s, the newest of each slot that is not of l -/
inductive Kp : List Nat → Sg → Sg → Prop where
  | nil {l : List Nat} : Kp l [] []
  | skip {l : List Nat} {p : Nat × Value} {s s1 : Sg} : memN p.1 l = true → Kp l s s1 → Kp l (p :: s) s1
  | keep {l : List Nat} {p : Nat × Value} {s s1 : Sg} : Kp (p.1 :: l) s s1 → Kp l (p :: s) (p :: s1)
theorem KpA {l : List Nat} {s s1 : Sg} (h : Kp l s s1 := by repeat' (first | exact Kp.nil | (apply Kp.skip; exact rfl) | apply Kp.keep)) : Kp l s s1 := h
theorem IncA {L L' : List HP} (h : Inc L L' := by repeat' (first | exact Inc.nil | refine Inc.cons DelA ?_)) : Inc L L' := h
theorem SubA {s s' : Sg} (h : Sub s s' := by repeat' (first | exact trivial | refine ⟨rfl, ?_⟩)) : Sub s s' := h

/-- a piece that tells of rows -/
class HasArr (H : HP) (sz : outParam Nat) (A : Option Addr) (n : outParam Nat) (rows : outParam (List (List Value))) : Prop where
  get : ∀ (S : Nat → Prop) w, H.on S w → Arr sz S w A n rows
theorem St.has_arr {w0 w : World} {L : List HP} {H : HP} {sz n : Nat} {A : Option Addr} {rows : List (List Value)} [h : HasArr H sz A n rows] (hw : St w0 L w) (ha : At L H) : Arr sz (fun b => b < w.heap.size) w A n rows := h.get _ w (hw.at_all ha)
/-- a struct's field of one cell, by value -/
class FV (P : Program) (t i : Nat) (off : outParam Nat) : Prop where
  run : ∀ (cs : Array Value) v w, cs[off]? = some v → (Instr.field t (.agg cs) i).run P w = .ok v w
theorem FV.of {P : Program} {t i off : Nat} {fs : Array Field} {f : Field} {d : TypeDesc} (hu : P.underlying t = some (.struct fs)) (hf' : fs[i]? = some f) (ho : f.offset = off) (hd : P.underlying f.type = some d)
    (hd' : (match d with | .struct _ | .array _ _ => true | _ => false) = false) : FV P t i off := by
  refine ⟨fun cs v w hv => ?_⟩
  subst ho
  cases d <;> simp at hd' <;> simp [Instr.field, run_underlying hu, hf', part, isAgg, run_underlying hd, asAgg, hv]
theorem Ev.field {P : Program} {n : FD} {s : Sg} {M : World → Prop} {ty : TypeId} {x : Operand} {t i off : Nat} {cs : Array Value} {v : Value} [h : FV P t i off] (hx : ev s x = some (.agg cs)) (hv : cs[off]? = some v) : Ev P n s M (.field t x i) ty v := by
  refine ⟨fun a w o ho ht hf hm => ?_⟩
  simp [execOp, ho, hf.ev hx, h.run cs v w hv]
/-- the walk stops here -/
structure Held (p : Prop) : Prop where
  go : p
section
variable {P : Program} {Q : Exit → Act → World → Prop} {n : FD} {s : Sg} {M : World → Prop} {c : Code}
theorem TC.loopA {ι : Type _} (x0 : ι) (md : ι → Sg → Sg) (M' : ι → World → Prop) (p : ι → Prop) (μ : ι → Nat) {s1 : Sg} (hk : Kp (asg c []) s s1)
    (hs : Sub (md x0 s1) s) (hM : ∀ w, M w → M' x0 w) (hp : p x0)
    (round : ∀ x, p x → TC P c (Exit.then (fun a w => ∃ y, p y ∧ μ y < μ x ∧ Fr n (md y s1) a ∧ M' y w) Q) n (md x s1) (M' x)) : TC P (.loop c) Q n s M :=
  TC.loop (fun x => md x s1) M' p μ (TX.enter x0 hp hs hM) round
theorem TC.hold (id : Nat) {ops : Array Oper} {draw : Bool} {c c2 : Code} (h : Held (TC P (.seq (.seq (.region id ops draw) c) c2) Q n s M)) : TC P (.seq (.seq (.region id ops draw) c) c2) Q n s M := h.go
theorem TC.holdR (id : Nat) {ops : Array Oper} {draw : Bool} {c2 : Code} (h : Held (TC P (.seq (.region id ops draw) c2) Q n s M)) : TC P (.seq (.region id ops draw) c2) Q n s M := h.go
/-- a cut: the first part comes to a named state; the slots that it does not assign stay -/
theorem TC.cutA {c1 c2 : Code} {ι : Sort _} (md : ι → Sg → Sg) (M' : ι → World → Prop) {s1 : Sg} (hk : Kp (asg c1 []) s s1)
    (k1 : TC P c1 (Exit.then (fun a w => ∃ x, Fr n (md x s1) a ∧ M' x w) Q) n s M) (k2 : ∀ x, TC P c2 Q n (md x s1) (M' x)) : TC P (.seq c1 c2) Q n s M :=
  TC.cut (fun x => md x s1) M' k1 k2
theorem TX.join {ι : Sort _} {s' : ι → Sg} {M' : ι → World → Prop} (x : ι) (hs : Sub (s' x) s) (hM : ∀ w, M w → M' x w) :
    TX (Exit.then (fun a w => ∃ x, Fr n (s' x) a ∧ M' x w) Q) .normal n s M := ⟨fun a w hf hm => ⟨x, hf.sub hs, hM w hm⟩⟩
end
end Go.Sl
