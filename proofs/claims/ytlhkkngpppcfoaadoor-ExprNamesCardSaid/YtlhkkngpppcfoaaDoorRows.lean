/-
  NARROWER THAN 'FOR EVERY INPUT', by the rows' own cells (each row's printed sentence says how): TreeRow: laid · TreeMakes: laid · TreeSame: laid · TreeBack: laid · TreeNames: laid · TreeTells: laid · ExprBrackets: laid · ExprParts: laid · ExprPuts: laid · ExprHead: laid · ExprMakes: laid · ExprNames: laid · ExprNormal: laid.
  DERIVED. THE GIVEN ROWS OF THIS SEAT. 13 by the template 'for every input the law returns true; each argument reads behind the call as it read before'; 0 by the template 'total and deterministic' (their statements: YtlhkkngpppcfoaaDoorTotals.lean).
  GIVEN WITH THE SEED: the statements are not yours to turn. If you find one false, say at which input.
  Laid BY PROGRAM, IN A SANDBOX (cutbox-rows.mjs): the forced cells as the released guide's own fill.sh prints them over the translation 3c72680e9f017331… (all of the seat's roots in one cut). By AI agents, Wed Nov 11 2026. No macro, syntax, notation, axiom, sorry.
-/
import Derived.Test.YtlhkkngpppcfoaaDoorChecked
import GoSem.Claim
import GoSem.ClaimJoined
import GoSem.ClaimMapViews
import Derived.JoinedTies
import Derived.KernelRfl
namespace Go.Proofs.YtlhkkngpppcfoaaDoor
/- THE CELL 'sum', in the pinned program and in every row, IS THE sha256 OF THE DUMP (.gsa) THAT YtlhkkngpppcfoaaDoorProg.lean LOADS. Nothing in Lean hashes anything: it is a label: what it is worth is what the hold of that sum in a sandbox is worth. -/
noncomputable def Tryd.pinned : Pinned := { name := "ytlhkkngpppcfoaadoor", sum := "3c72680e9f0173317afdead8a65d7e20bef53e777aff87f2dd0a0412d9c978a6", checked := Tryd.checked }
namespace Rows
def none {H : Type} : Left H := { results := [], args := [] }

/- WHAT THE LISTED PACKAGE-LEVEL VARIABLES READ AS WHEN THE CALL BEGINS. Each datum BY PROGRAM (the guide's laid-datum.mjs) off the statement by which the dump's own 'gosem.cut.vars' lays the variable. In a bare row this is a premise. The card (YtlhkkngpppcfoaaDoorCards.lean) ties it to the program's text. -/
def laid_bonsai_tree_counts {H : Type} : DataW H := .agg [.agg [.lit (.int .i64 0), .lit (.int .i64 0)], .agg [.lit (.int .i64 0), .lit (.int .i64 0)], .agg [.lit (.int .i64 0), .lit (.int .i64 0)], .agg [.lit (.int .i64 0), .lit (.int .i64 0)], .agg [.lit (.int .i64 2), .lit (.int .i64 (-1))], .agg [.lit (.int .i64 2), .lit (.int .i64 (-1))], .agg [.lit (.int .i64 1), .lit (.int .i64 1)], .agg [.lit (.int .i64 1), .lit (.int .i64 1)], .agg [.lit (.int .i64 1), .lit (.int .i64 1)], .agg [.lit (.int .i64 1), .lit (.int .i64 1)]]

/-- 'bonsailaw04.TreeRow': WHATEVER THE INPUT: true; the input reads as it did. -/
def treeRowSpec : ChangeSpec := { name := "treeRow", fn := fun _ => fun
  | [d] => { results := [.lit (.bool true)], args := [d] }
  | _ => none }
def treeRowRow : OpenClaim := { program := "ytlhkkngpppcfoaadoor", sum := "3c72680e9f0173317afdead8a65d7e20bef53e777aff87f2dd0a0412d9c978a6", func := "bonsai/bonsailaw04.TreeRow", spec := "treeRow", unfollowed := true, recurses := true, named := ["bonsai/tree.counts"], apart := false, laid := [("bonsai/tree.counts", laid_bonsai_tree_counts)] }
def TreeRowSaid : Prop := treeRowRow.holds Tryd.pinned (OpenSpec.ofChange treeRowSpec)

/-- ITS FALSE NEIGHBOUR: 'it returns false'. Refute it at one input. -/
def treeRowWrong : ChangeSpec := { name := "treeRow", fn := fun _ => fun
  | [d] => { results := [.lit (.bool false)], args := [d] }
  | _ => none }
def TreeRowWrongFalsely : Prop := treeRowRow.holds Tryd.pinned (OpenSpec.ofChange treeRowWrong)

/-- 'bonsailaw04.TreeMakes': WHATEVER THE INPUT: true; the input reads as it did. -/
def treeMakesSpec : ChangeSpec := { name := "treeMakes", fn := fun _ => fun
  | [d1, d2, d3] => { results := [.lit (.bool true)], args := [d1, d2, d3] }
  | _ => none }
def treeMakesRow : OpenClaim := { program := "ytlhkkngpppcfoaadoor", sum := "3c72680e9f0173317afdead8a65d7e20bef53e777aff87f2dd0a0412d9c978a6", func := "bonsai/bonsailaw04.TreeMakes", spec := "treeMakes", unfollowed := true, recurses := true, named := ["bonsai/tree.counts"], apart := false, laid := [("bonsai/tree.counts", laid_bonsai_tree_counts)] }
def TreeMakesSaid : Prop := treeMakesRow.holds Tryd.pinned (OpenSpec.ofChange treeMakesSpec)

/-- ITS FALSE NEIGHBOUR: 'it returns false'. Refute it at one input. -/
def treeMakesWrong : ChangeSpec := { name := "treeMakes", fn := fun _ => fun
  | [d1, d2, d3] => { results := [.lit (.bool false)], args := [d1, d2, d3] }
  | _ => none }
def TreeMakesWrongFalsely : Prop := treeMakesRow.holds Tryd.pinned (OpenSpec.ofChange treeMakesWrong)

/-- 'bonsailaw04.TreeSame': WHATEVER THE INPUT: true; the input reads as it did. -/
def treeSameSpec : ChangeSpec := { name := "treeSame", fn := fun _ => fun
  | [d1, d2, d3] => { results := [.lit (.bool true)], args := [d1, d2, d3] }
  | _ => none }
def treeSameRow : OpenClaim := { program := "ytlhkkngpppcfoaadoor", sum := "3c72680e9f0173317afdead8a65d7e20bef53e777aff87f2dd0a0412d9c978a6", func := "bonsai/bonsailaw04.TreeSame", spec := "treeSame", unfollowed := true, recurses := true, named := ["bonsai/tree.counts"], apart := false, laid := [("bonsai/tree.counts", laid_bonsai_tree_counts)] }
def TreeSameSaid : Prop := treeSameRow.holds Tryd.pinned (OpenSpec.ofChange treeSameSpec)

/-- ITS FALSE NEIGHBOUR: 'it returns false'. Refute it at one input. -/
def treeSameWrong : ChangeSpec := { name := "treeSame", fn := fun _ => fun
  | [d1, d2, d3] => { results := [.lit (.bool false)], args := [d1, d2, d3] }
  | _ => none }
def TreeSameWrongFalsely : Prop := treeSameRow.holds Tryd.pinned (OpenSpec.ofChange treeSameWrong)

/-- 'bonsailaw04.TreeBack': WHATEVER THE INPUT: true; the input reads as it did. -/
def treeBackSpec : ChangeSpec := { name := "treeBack", fn := fun _ => fun
  | [d1, d2, d3] => { results := [.lit (.bool true)], args := [d1, d2, d3] }
  | _ => none }
def treeBackRow : OpenClaim := { program := "ytlhkkngpppcfoaadoor", sum := "3c72680e9f0173317afdead8a65d7e20bef53e777aff87f2dd0a0412d9c978a6", func := "bonsai/bonsailaw04.TreeBack", spec := "treeBack", unfollowed := true, recurses := true, named := ["bonsai/tree.counts"], apart := false, laid := [("bonsai/tree.counts", laid_bonsai_tree_counts)] }
def TreeBackSaid : Prop := treeBackRow.holds Tryd.pinned (OpenSpec.ofChange treeBackSpec)

/-- ITS FALSE NEIGHBOUR: 'it returns false'. Refute it at one input. -/
def treeBackWrong : ChangeSpec := { name := "treeBack", fn := fun _ => fun
  | [d1, d2, d3] => { results := [.lit (.bool false)], args := [d1, d2, d3] }
  | _ => none }
def TreeBackWrongFalsely : Prop := treeBackRow.holds Tryd.pinned (OpenSpec.ofChange treeBackWrong)

/-- 'bonsailaw04.TreeNames': WHATEVER THE INPUT: true; the input reads as it did. -/
def treeNamesSpec : ChangeSpec := { name := "treeNames", fn := fun _ => fun
  | [] => { results := [.lit (.bool true)], args := [] }
  | _ => none }
def treeNamesRow : OpenClaim := { program := "ytlhkkngpppcfoaadoor", sum := "3c72680e9f0173317afdead8a65d7e20bef53e777aff87f2dd0a0412d9c978a6", func := "bonsai/bonsailaw04.TreeNames", spec := "treeNames", unfollowed := true, recurses := true, named := ["bonsai/tree.counts"], apart := false, laid := [("bonsai/tree.counts", laid_bonsai_tree_counts)] }
def TreeNamesSaid : Prop := treeNamesRow.holds Tryd.pinned (OpenSpec.ofChange treeNamesSpec)

/-- ITS FALSE NEIGHBOUR: 'it returns false'. Refute it at one input. -/
def treeNamesWrong : ChangeSpec := { name := "treeNames", fn := fun _ => fun
  | [] => { results := [.lit (.bool false)], args := [] }
  | _ => none }
def TreeNamesWrongFalsely : Prop := treeNamesRow.holds Tryd.pinned (OpenSpec.ofChange treeNamesWrong)

/-- 'bonsailaw04.TreeTells': WHATEVER THE INPUT: true; the input reads as it did. -/
def treeTellsSpec : ChangeSpec := { name := "treeTells", fn := fun _ => fun
  | [d1, d2, d3] => { results := [.lit (.bool true)], args := [d1, d2, d3] }
  | _ => none }
def treeTellsRow : OpenClaim := { program := "ytlhkkngpppcfoaadoor", sum := "3c72680e9f0173317afdead8a65d7e20bef53e777aff87f2dd0a0412d9c978a6", func := "bonsai/bonsailaw04.TreeTells", spec := "treeTells", unfollowed := true, recurses := true, named := ["bonsai/tree.counts"], apart := false, laid := [("bonsai/tree.counts", laid_bonsai_tree_counts)] }
def TreeTellsSaid : Prop := treeTellsRow.holds Tryd.pinned (OpenSpec.ofChange treeTellsSpec)

/-- ITS FALSE NEIGHBOUR: 'it returns false'. Refute it at one input. -/
def treeTellsWrong : ChangeSpec := { name := "treeTells", fn := fun _ => fun
  | [d1, d2, d3] => { results := [.lit (.bool false)], args := [d1, d2, d3] }
  | _ => none }
def TreeTellsWrongFalsely : Prop := treeTellsRow.holds Tryd.pinned (OpenSpec.ofChange treeTellsWrong)

/-- 'bonsailaw05.ExprBrackets': WHATEVER THE INPUT: true; the input reads as it did. -/
def exprBracketsSpec : ChangeSpec := { name := "exprBrackets", fn := fun _ => fun
  | [d1, d2, d3] => { results := [.lit (.bool true)], args := [d1, d2, d3] }
  | _ => none }
def exprBracketsRow : OpenClaim := { program := "ytlhkkngpppcfoaadoor", sum := "3c72680e9f0173317afdead8a65d7e20bef53e777aff87f2dd0a0412d9c978a6", func := "bonsai/bonsailaw05.ExprBrackets", spec := "exprBrackets", unfollowed := true, recurses := true, named := ["bonsai/tree.counts"], apart := false, laid := [("bonsai/tree.counts", laid_bonsai_tree_counts)] }
def ExprBracketsSaid : Prop := exprBracketsRow.holds Tryd.pinned (OpenSpec.ofChange exprBracketsSpec)

/-- ITS FALSE NEIGHBOUR: 'it returns false'. Refute it at one input. -/
def exprBracketsWrong : ChangeSpec := { name := "exprBrackets", fn := fun _ => fun
  | [d1, d2, d3] => { results := [.lit (.bool false)], args := [d1, d2, d3] }
  | _ => none }
def ExprBracketsWrongFalsely : Prop := exprBracketsRow.holds Tryd.pinned (OpenSpec.ofChange exprBracketsWrong)

/-- 'bonsailaw05.ExprParts': WHATEVER THE INPUT: true; the input reads as it did. -/
def exprPartsSpec : ChangeSpec := { name := "exprParts", fn := fun _ => fun
  | [d] => { results := [.lit (.bool true)], args := [d] }
  | _ => none }
def exprPartsRow : OpenClaim := { program := "ytlhkkngpppcfoaadoor", sum := "3c72680e9f0173317afdead8a65d7e20bef53e777aff87f2dd0a0412d9c978a6", func := "bonsai/bonsailaw05.ExprParts", spec := "exprParts", unfollowed := true, recurses := true, named := ["bonsai/tree.counts"], apart := false, laid := [("bonsai/tree.counts", laid_bonsai_tree_counts)] }
def ExprPartsSaid : Prop := exprPartsRow.holds Tryd.pinned (OpenSpec.ofChange exprPartsSpec)

/-- ITS FALSE NEIGHBOUR: 'it returns false'. Refute it at one input. -/
def exprPartsWrong : ChangeSpec := { name := "exprParts", fn := fun _ => fun
  | [d] => { results := [.lit (.bool false)], args := [d] }
  | _ => none }
def ExprPartsWrongFalsely : Prop := exprPartsRow.holds Tryd.pinned (OpenSpec.ofChange exprPartsWrong)

/-- 'bonsailaw05.ExprPuts': WHATEVER THE INPUT: true; the input reads as it did. -/
def exprPutsSpec : ChangeSpec := { name := "exprPuts", fn := fun _ => fun
  | [d1, d2, d3, d4] => { results := [.lit (.bool true)], args := [d1, d2, d3, d4] }
  | _ => none }
def exprPutsRow : OpenClaim := { program := "ytlhkkngpppcfoaadoor", sum := "3c72680e9f0173317afdead8a65d7e20bef53e777aff87f2dd0a0412d9c978a6", func := "bonsai/bonsailaw05.ExprPuts", spec := "exprPuts", unfollowed := true, recurses := true, named := ["bonsai/tree.counts"], apart := false, laid := [("bonsai/tree.counts", laid_bonsai_tree_counts)] }
def ExprPutsSaid : Prop := exprPutsRow.holds Tryd.pinned (OpenSpec.ofChange exprPutsSpec)

/-- ITS FALSE NEIGHBOUR: 'it returns false'. Refute it at one input. -/
def exprPutsWrong : ChangeSpec := { name := "exprPuts", fn := fun _ => fun
  | [d1, d2, d3, d4] => { results := [.lit (.bool false)], args := [d1, d2, d3, d4] }
  | _ => none }
def ExprPutsWrongFalsely : Prop := exprPutsRow.holds Tryd.pinned (OpenSpec.ofChange exprPutsWrong)

/-- 'bonsailaw05.ExprHead': WHATEVER THE INPUT: true; the input reads as it did. -/
def exprHeadSpec : ChangeSpec := { name := "exprHead", fn := fun _ => fun
  | [d] => { results := [.lit (.bool true)], args := [d] }
  | _ => none }
def exprHeadRow : OpenClaim := { program := "ytlhkkngpppcfoaadoor", sum := "3c72680e9f0173317afdead8a65d7e20bef53e777aff87f2dd0a0412d9c978a6", func := "bonsai/bonsailaw05.ExprHead", spec := "exprHead", unfollowed := true, recurses := true, named := ["bonsai/tree.counts"], apart := false, laid := [("bonsai/tree.counts", laid_bonsai_tree_counts)] }
def ExprHeadSaid : Prop := exprHeadRow.holds Tryd.pinned (OpenSpec.ofChange exprHeadSpec)

/-- ITS FALSE NEIGHBOUR: 'it returns false'. Refute it at one input. -/
def exprHeadWrong : ChangeSpec := { name := "exprHead", fn := fun _ => fun
  | [d] => { results := [.lit (.bool false)], args := [d] }
  | _ => none }
def ExprHeadWrongFalsely : Prop := exprHeadRow.holds Tryd.pinned (OpenSpec.ofChange exprHeadWrong)

/-- 'bonsailaw05.ExprMakes': WHATEVER THE INPUT: true; the input reads as it did. -/
def exprMakesSpec : ChangeSpec := { name := "exprMakes", fn := fun _ => fun
  | [d] => { results := [.lit (.bool true)], args := [d] }
  | _ => none }
def exprMakesRow : OpenClaim := { program := "ytlhkkngpppcfoaadoor", sum := "3c72680e9f0173317afdead8a65d7e20bef53e777aff87f2dd0a0412d9c978a6", func := "bonsai/bonsailaw05.ExprMakes", spec := "exprMakes", unfollowed := true, recurses := true, named := ["bonsai/tree.counts"], apart := false, laid := [("bonsai/tree.counts", laid_bonsai_tree_counts)] }
def ExprMakesSaid : Prop := exprMakesRow.holds Tryd.pinned (OpenSpec.ofChange exprMakesSpec)

/-- ITS FALSE NEIGHBOUR: 'it returns false'. Refute it at one input. -/
def exprMakesWrong : ChangeSpec := { name := "exprMakes", fn := fun _ => fun
  | [d] => { results := [.lit (.bool false)], args := [d] }
  | _ => none }
def ExprMakesWrongFalsely : Prop := exprMakesRow.holds Tryd.pinned (OpenSpec.ofChange exprMakesWrong)

/-- 'bonsailaw05.ExprNames': WHATEVER THE INPUT: true; the input reads as it did. -/
def exprNamesSpec : ChangeSpec := { name := "exprNames", fn := fun _ => fun
  | [] => { results := [.lit (.bool true)], args := [] }
  | _ => none }
def exprNamesRow : OpenClaim := { program := "ytlhkkngpppcfoaadoor", sum := "3c72680e9f0173317afdead8a65d7e20bef53e777aff87f2dd0a0412d9c978a6", func := "bonsai/bonsailaw05.ExprNames", spec := "exprNames", unfollowed := true, recurses := true, named := ["bonsai/tree.counts"], apart := false, laid := [("bonsai/tree.counts", laid_bonsai_tree_counts)] }
def ExprNamesSaid : Prop := exprNamesRow.holds Tryd.pinned (OpenSpec.ofChange exprNamesSpec)

/-- ITS FALSE NEIGHBOUR: 'it returns false'. Refute it at one input. -/
def exprNamesWrong : ChangeSpec := { name := "exprNames", fn := fun _ => fun
  | [] => { results := [.lit (.bool false)], args := [] }
  | _ => none }
def ExprNamesWrongFalsely : Prop := exprNamesRow.holds Tryd.pinned (OpenSpec.ofChange exprNamesWrong)

/-- 'bonsailaw05.ExprNormal': WHATEVER THE INPUT: true; the input reads as it did. -/
def exprNormalSpec : ChangeSpec := { name := "exprNormal", fn := fun _ => fun
  | [d1, d2] => { results := [.lit (.bool true)], args := [d1, d2] }
  | _ => none }
def exprNormalRow : OpenClaim := { program := "ytlhkkngpppcfoaadoor", sum := "3c72680e9f0173317afdead8a65d7e20bef53e777aff87f2dd0a0412d9c978a6", func := "bonsai/bonsailaw05.ExprNormal", spec := "exprNormal", unfollowed := true, recurses := true, named := ["bonsai/tree.counts"], apart := false, laid := [("bonsai/tree.counts", laid_bonsai_tree_counts)] }
def ExprNormalSaid : Prop := exprNormalRow.holds Tryd.pinned (OpenSpec.ofChange exprNormalSpec)

/-- ITS FALSE NEIGHBOUR: 'it returns false'. Refute it at one input. -/
def exprNormalWrong : ChangeSpec := { name := "exprNormal", fn := fun _ => fun
  | [d1, d2] => { results := [.lit (.bool false)], args := [d1, d2] }
  | _ => none }
def ExprNormalWrongFalsely : Prop := exprNormalRow.holds Tryd.pinned (OpenSpec.ofChange exprNormalWrong)

/- THE SECOND FORM. 'bulk': how many values and letters a reading holds, each counted each time it is reached (what is shared counts as often as it is met; a slice's spare places count too). A statement '..UptoSaid' is the law's where the arguments, and the package variables that the reading takes, are together of bulk at most 1048576: NARROWER than '..Said'. Prove '..Said' where nothing that the law and all that it calls make is longer than what came in: it says more and counts as full. Else prove '..UptoSaid'. A law counts once. -/
mutual
def uptoBulk {H : Type} : DataW H → Nat
  | .lit (.string bytes) => bytes.length + 1
  | .lit _ => 1
  | .nil => 1
  | .ptr d => uptoBulk d + 1
  | .slice elems spare => uptoBulkAll elems + uptoBulkAll spare + 1
  | .agg parts => uptoBulkAll parts + 1
  | .iface _ d => uptoBulk d + 1
  | .map entries => uptoBulkEntries entries + 1
  | .held _ => 1
def uptoBulkAll {H : Type} : List (DataW H) → Nat
  | [] => 0
  | d :: r => uptoBulk d + uptoBulkAll r
def uptoBulkEntries {H : Type} : List (Lit × DataW H) → Nat
  | [] => 0
  | x :: r => uptoBulkEntry x + uptoBulkEntries r
def uptoBulkEntry {H : Type} : Lit × DataW H → Nat
  | (.string bytes, d) => bytes.length + uptoBulk d + 1
  | (_, d) => uptoBulk d + 1
 end
def uptoSmall : (H : Type) → List (DataW H) → Bool := fun _ ds => decide (uptoBulkAll ds ≤ 1048576)
def OpenSpec.upto (s : _root_.Go.ChangeSpec) : _root_.Go.OpenSpec := { _root_.Go.OpenSpec.ofChange s with cond := some uptoSmall }

/-- 'bonsailaw04.TreeRow', WHERE WHAT IT READS IS OF BULK AT MOST 1048576: true; the input reads as it did. -/
def treeRowUptoRow : OpenClaim := { program := "ytlhkkngpppcfoaadoor", sum := "3c72680e9f0173317afdead8a65d7e20bef53e777aff87f2dd0a0412d9c978a6", func := "bonsai/bonsailaw04.TreeRow", spec := "treeRow", unfollowed := true, recurses := true, named := ["bonsai/tree.counts"], apart := false, laid := [("bonsai/tree.counts", laid_bonsai_tree_counts)], narrowed := true }
def TreeRowUptoSaid : Prop := treeRowUptoRow.holds Tryd.pinned (OpenSpec.upto treeRowSpec)

/-- 'bonsailaw04.TreeMakes', WHERE WHAT IT READS IS OF BULK AT MOST 1048576: true; the input reads as it did. -/
def treeMakesUptoRow : OpenClaim := { program := "ytlhkkngpppcfoaadoor", sum := "3c72680e9f0173317afdead8a65d7e20bef53e777aff87f2dd0a0412d9c978a6", func := "bonsai/bonsailaw04.TreeMakes", spec := "treeMakes", unfollowed := true, recurses := true, named := ["bonsai/tree.counts"], apart := false, laid := [("bonsai/tree.counts", laid_bonsai_tree_counts)], narrowed := true }
def TreeMakesUptoSaid : Prop := treeMakesUptoRow.holds Tryd.pinned (OpenSpec.upto treeMakesSpec)

/-- 'bonsailaw04.TreeSame', WHERE WHAT IT READS IS OF BULK AT MOST 1048576: true; the input reads as it did. -/
def treeSameUptoRow : OpenClaim := { program := "ytlhkkngpppcfoaadoor", sum := "3c72680e9f0173317afdead8a65d7e20bef53e777aff87f2dd0a0412d9c978a6", func := "bonsai/bonsailaw04.TreeSame", spec := "treeSame", unfollowed := true, recurses := true, named := ["bonsai/tree.counts"], apart := false, laid := [("bonsai/tree.counts", laid_bonsai_tree_counts)], narrowed := true }
def TreeSameUptoSaid : Prop := treeSameUptoRow.holds Tryd.pinned (OpenSpec.upto treeSameSpec)

/-- 'bonsailaw04.TreeBack', WHERE WHAT IT READS IS OF BULK AT MOST 1048576: true; the input reads as it did. -/
def treeBackUptoRow : OpenClaim := { program := "ytlhkkngpppcfoaadoor", sum := "3c72680e9f0173317afdead8a65d7e20bef53e777aff87f2dd0a0412d9c978a6", func := "bonsai/bonsailaw04.TreeBack", spec := "treeBack", unfollowed := true, recurses := true, named := ["bonsai/tree.counts"], apart := false, laid := [("bonsai/tree.counts", laid_bonsai_tree_counts)], narrowed := true }
def TreeBackUptoSaid : Prop := treeBackUptoRow.holds Tryd.pinned (OpenSpec.upto treeBackSpec)

/-- 'bonsailaw04.TreeNames', WHERE WHAT IT READS IS OF BULK AT MOST 1048576: true; the input reads as it did. -/
def treeNamesUptoRow : OpenClaim := { program := "ytlhkkngpppcfoaadoor", sum := "3c72680e9f0173317afdead8a65d7e20bef53e777aff87f2dd0a0412d9c978a6", func := "bonsai/bonsailaw04.TreeNames", spec := "treeNames", unfollowed := true, recurses := true, named := ["bonsai/tree.counts"], apart := false, laid := [("bonsai/tree.counts", laid_bonsai_tree_counts)], narrowed := true }
def TreeNamesUptoSaid : Prop := treeNamesUptoRow.holds Tryd.pinned (OpenSpec.upto treeNamesSpec)

/-- 'bonsailaw04.TreeTells', WHERE WHAT IT READS IS OF BULK AT MOST 1048576: true; the input reads as it did. -/
def treeTellsUptoRow : OpenClaim := { program := "ytlhkkngpppcfoaadoor", sum := "3c72680e9f0173317afdead8a65d7e20bef53e777aff87f2dd0a0412d9c978a6", func := "bonsai/bonsailaw04.TreeTells", spec := "treeTells", unfollowed := true, recurses := true, named := ["bonsai/tree.counts"], apart := false, laid := [("bonsai/tree.counts", laid_bonsai_tree_counts)], narrowed := true }
def TreeTellsUptoSaid : Prop := treeTellsUptoRow.holds Tryd.pinned (OpenSpec.upto treeTellsSpec)

/-- 'bonsailaw05.ExprBrackets', WHERE WHAT IT READS IS OF BULK AT MOST 1048576: true; the input reads as it did. -/
def exprBracketsUptoRow : OpenClaim := { program := "ytlhkkngpppcfoaadoor", sum := "3c72680e9f0173317afdead8a65d7e20bef53e777aff87f2dd0a0412d9c978a6", func := "bonsai/bonsailaw05.ExprBrackets", spec := "exprBrackets", unfollowed := true, recurses := true, named := ["bonsai/tree.counts"], apart := false, laid := [("bonsai/tree.counts", laid_bonsai_tree_counts)], narrowed := true }
def ExprBracketsUptoSaid : Prop := exprBracketsUptoRow.holds Tryd.pinned (OpenSpec.upto exprBracketsSpec)

/-- 'bonsailaw05.ExprParts', WHERE WHAT IT READS IS OF BULK AT MOST 1048576: true; the input reads as it did. -/
def exprPartsUptoRow : OpenClaim := { program := "ytlhkkngpppcfoaadoor", sum := "3c72680e9f0173317afdead8a65d7e20bef53e777aff87f2dd0a0412d9c978a6", func := "bonsai/bonsailaw05.ExprParts", spec := "exprParts", unfollowed := true, recurses := true, named := ["bonsai/tree.counts"], apart := false, laid := [("bonsai/tree.counts", laid_bonsai_tree_counts)], narrowed := true }
def ExprPartsUptoSaid : Prop := exprPartsUptoRow.holds Tryd.pinned (OpenSpec.upto exprPartsSpec)

/-- 'bonsailaw05.ExprPuts', WHERE WHAT IT READS IS OF BULK AT MOST 1048576: true; the input reads as it did. -/
def exprPutsUptoRow : OpenClaim := { program := "ytlhkkngpppcfoaadoor", sum := "3c72680e9f0173317afdead8a65d7e20bef53e777aff87f2dd0a0412d9c978a6", func := "bonsai/bonsailaw05.ExprPuts", spec := "exprPuts", unfollowed := true, recurses := true, named := ["bonsai/tree.counts"], apart := false, laid := [("bonsai/tree.counts", laid_bonsai_tree_counts)], narrowed := true }
def ExprPutsUptoSaid : Prop := exprPutsUptoRow.holds Tryd.pinned (OpenSpec.upto exprPutsSpec)

/-- 'bonsailaw05.ExprHead', WHERE WHAT IT READS IS OF BULK AT MOST 1048576: true; the input reads as it did. -/
def exprHeadUptoRow : OpenClaim := { program := "ytlhkkngpppcfoaadoor", sum := "3c72680e9f0173317afdead8a65d7e20bef53e777aff87f2dd0a0412d9c978a6", func := "bonsai/bonsailaw05.ExprHead", spec := "exprHead", unfollowed := true, recurses := true, named := ["bonsai/tree.counts"], apart := false, laid := [("bonsai/tree.counts", laid_bonsai_tree_counts)], narrowed := true }
def ExprHeadUptoSaid : Prop := exprHeadUptoRow.holds Tryd.pinned (OpenSpec.upto exprHeadSpec)

/-- 'bonsailaw05.ExprMakes', WHERE WHAT IT READS IS OF BULK AT MOST 1048576: true; the input reads as it did. -/
def exprMakesUptoRow : OpenClaim := { program := "ytlhkkngpppcfoaadoor", sum := "3c72680e9f0173317afdead8a65d7e20bef53e777aff87f2dd0a0412d9c978a6", func := "bonsai/bonsailaw05.ExprMakes", spec := "exprMakes", unfollowed := true, recurses := true, named := ["bonsai/tree.counts"], apart := false, laid := [("bonsai/tree.counts", laid_bonsai_tree_counts)], narrowed := true }
def ExprMakesUptoSaid : Prop := exprMakesUptoRow.holds Tryd.pinned (OpenSpec.upto exprMakesSpec)

/-- 'bonsailaw05.ExprNames', WHERE WHAT IT READS IS OF BULK AT MOST 1048576: true; the input reads as it did. -/
def exprNamesUptoRow : OpenClaim := { program := "ytlhkkngpppcfoaadoor", sum := "3c72680e9f0173317afdead8a65d7e20bef53e777aff87f2dd0a0412d9c978a6", func := "bonsai/bonsailaw05.ExprNames", spec := "exprNames", unfollowed := true, recurses := true, named := ["bonsai/tree.counts"], apart := false, laid := [("bonsai/tree.counts", laid_bonsai_tree_counts)], narrowed := true }
def ExprNamesUptoSaid : Prop := exprNamesUptoRow.holds Tryd.pinned (OpenSpec.upto exprNamesSpec)

/-- 'bonsailaw05.ExprNormal', WHERE WHAT IT READS IS OF BULK AT MOST 1048576: true; the input reads as it did. -/
def exprNormalUptoRow : OpenClaim := { program := "ytlhkkngpppcfoaadoor", sum := "3c72680e9f0173317afdead8a65d7e20bef53e777aff87f2dd0a0412d9c978a6", func := "bonsai/bonsailaw05.ExprNormal", spec := "exprNormal", unfollowed := true, recurses := true, named := ["bonsai/tree.counts"], apart := false, laid := [("bonsai/tree.counts", laid_bonsai_tree_counts)], narrowed := true }
def ExprNormalUptoSaid : Prop := exprNormalUptoRow.holds Tryd.pinned (OpenSpec.upto exprNormalSpec)

end Rows
end Go.Proofs.YtlhkkngpppcfoaaDoor
