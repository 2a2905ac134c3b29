/-
  tree.same, slices.EqualFunc over nodes, tree.Same, tree.May, tree.Depth.
-/
import Derived.Test.YtalnmednhhimhaaDoorOps2
set_option linter.all false
namespace Go.Bonsai
theorem Nod.eq_iff {n m : Nod} : n = m ↔ n.kind = m.kind ∧ n.set = m.set ∧ n.text = m.text ∧ n.min = m.min ∧ n.max = m.max ∧ n.kids = m.kids := by
  cases n; cases m; simp
end Go.Bonsai
namespace Go.Proofs.YtalnmednhhimhaaDoor
open Go Go.Sl Go.RowKit Go.Bonsai
set_option linter.unusedVariables false
set_option linter.unusedSimpArgs false

end Go.Proofs.YtalnmednhhimhaaDoor
