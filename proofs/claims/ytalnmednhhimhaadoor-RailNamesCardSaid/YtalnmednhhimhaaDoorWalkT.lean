/-
  tree.Walk, walked; slices.Backward over ints.
-/
import Derived.Test.YtalnmednhhimhaaDoorOf
import Derived.Test.YtalnmednhhimhaaDoorRange
set_option linter.all false
namespace Go.Proofs.YtalnmednhhimhaaDoor
open Go Go.Sl Go.RowKit Go.Bonsai
set_option linter.unusedVariables false
set_option linter.unusedSimpArgs false

theorem Ev.makeFunc {P : Program} {n : FD} {s : Sg} {M : World → Prop} {ty : TypeId} {f : Fn} {xs : List Operand} {vs : List Value} (hx : evs s xs = some vs) :
    Ev P n s M (.makeFunc f #[] xs.toArray) ty (.func f #[] vs.toArray) := by
  refine ⟨fun a w o ho ht hf hm => ?_⟩
  have h1 := evs_eq hf hx
  simp [execOp, ho, Instr.makeFunc, h1]

/-- a boxed slice of one's own -/
def hBox (b : Nat) (t : TypeId) (xs : List Int) : HP := hEx fun p : Option Addr × Nat => hSep [own 3 1 p.1 xs.length p.2 (irows xs), blk b [.slice p.1 xs.length p.2] t]
theorem hBox_mk {w0 w : World} {L : List HP} {b : Nat} {t : TypeId} {xs : List Int} {A : Option Addr} {c : Nat} (h : St w0 (own 3 1 A xs.length c (irows xs) :: blk b [.slice A xs.length c] t :: L) w) : St w0 (hBox b t xs :: L) w :=
  St.shutEx (f := fun p : Option Addr × Nat => hSep [own 3 1 p.1 xs.length p.2 (irows xs), blk b [.slice p.1 xs.length p.2] t]) (A, c) (St.shutSep (K := [_, _]) h)
theorem hBox_open {w0 w : World} {L L' : List HP} {b : Nat} {t : TypeId} {xs : List Int} (hd : Del L (hBox b t xs) L') (h : St w0 L w) : ∃ p : Option Addr × Nat, St w0 (own 3 1 p.1 xs.length p.2 (irows xs) :: blk b [.slice p.1 xs.length p.2] t :: L') w := by
  obtain ⟨p, hp⟩ := St.openEx (h.del hd)
  exact ⟨p, St.openSep hp⟩

end Go.Proofs.YtalnmednhhimhaaDoor
