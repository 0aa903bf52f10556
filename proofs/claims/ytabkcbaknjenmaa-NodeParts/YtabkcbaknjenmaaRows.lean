/-
  No cell of these rows narrows 'for every input' (looked for: loops, veiled, ifaces, maps, wideKeys, modest, calm, conditions, laid).
  DERIVED. THE GIVEN ROWS OF THIS SEAT. 6 by the template 'for every input the law returns true; each argument reads behind the call as it read before'; 0 by the template 'total and deterministic' (their statements: YtabkcbaknjenmaaTotals.lean).
  GIVEN WITH THE SEED: the statements are not yours to turn. If you find one false, say at which input.
  Laid BY PROGRAM, IN A SANDBOX (cutbox-rows.mjs): the forced cells as the released guide's own fill.sh prints them over the translation e49c98f9abdeab2b… (all of the seat's roots in one cut). By AI agents, Wed Nov 11 2026. No macro, syntax, notation, axiom, sorry.
-/
import Derived.Test.YtabkcbaknjenmaaChecked
import GoSem.Claim
import GoSem.ClaimJoined
import GoSem.ClaimMapViews
import Derived.JoinedTies
import Derived.KernelRfl
namespace Go.Proofs.Ytabkcbaknjenmaa
/- THE CELL 'sum', in the pinned program and in every row, IS THE sha256 OF THE DUMP (.gsa) THAT YtabkcbaknjenmaaProg.lean LOADS. Nothing in Lean hashes anything: it is a label: what it is worth is what the hold of that sum in a sandbox is worth. -/
noncomputable def Try.pinned : Pinned := { name := "ytabkcbaknjenmaa", sum := "e49c98f9abdeab2b838c9c1c1c09b3713aea7edcb7f12a344745d606109ffc68", checked := Try.checked }
namespace Rows
def none {H : Type} : Left H := { results := [], args := [] }

/-- 'litmuslaw06.NodeTells': WHATEVER THE INPUT: true; the input reads as it did. -/
def nodeTellsSpec : ChangeSpec := { name := "nodeTells", fn := fun _ => fun
  | [d1, d2, d3] => { results := [.lit (.bool true)], args := [d1, d2, d3] }
  | _ => none }
def nodeTellsRow : OpenClaim := { program := "ytabkcbaknjenmaa", sum := "e49c98f9abdeab2b838c9c1c1c09b3713aea7edcb7f12a344745d606109ffc68", func := "litmus/litmuslaw06.NodeTells", spec := "nodeTells", unfollowed := true, recurses := true, apart := false }
def NodeTellsSaid : Prop := nodeTellsRow.holds Try.pinned (OpenSpec.ofChange nodeTellsSpec)

/-- ITS FALSE NEIGHBOUR: 'it returns false'. Refute it at one input. -/
def nodeTellsWrong : ChangeSpec := { name := "nodeTells", fn := fun _ => fun
  | [d1, d2, d3] => { results := [.lit (.bool false)], args := [d1, d2, d3] }
  | _ => none }
def NodeTellsWrongFalsely : Prop := nodeTellsRow.holds Try.pinned (OpenSpec.ofChange nodeTellsWrong)

/-- 'litmuslaw06.NodeParts': WHATEVER THE INPUT: true; the input reads as it did. -/
def nodePartsSpec : ChangeSpec := { name := "nodeParts", fn := fun _ => fun
  | [d] => { results := [.lit (.bool true)], args := [d] }
  | _ => none }
def nodePartsRow : OpenClaim := { program := "ytabkcbaknjenmaa", sum := "e49c98f9abdeab2b838c9c1c1c09b3713aea7edcb7f12a344745d606109ffc68", func := "litmus/litmuslaw06.NodeParts", spec := "nodeParts", unfollowed := true, recurses := true, apart := false }
def NodePartsSaid : Prop := nodePartsRow.holds Try.pinned (OpenSpec.ofChange nodePartsSpec)

/-- ITS FALSE NEIGHBOUR: 'it returns false'. Refute it at one input. -/
def nodePartsWrong : ChangeSpec := { name := "nodeParts", fn := fun _ => fun
  | [d] => { results := [.lit (.bool false)], args := [d] }
  | _ => none }
def NodePartsWrongFalsely : Prop := nodePartsRow.holds Try.pinned (OpenSpec.ofChange nodePartsWrong)

/-- 'litmuslaw06.NodeDeep': WHATEVER THE INPUT: true; the input reads as it did. -/
def nodeDeepSpec : ChangeSpec := { name := "nodeDeep", fn := fun _ => fun
  | [d1, d2] => { results := [.lit (.bool true)], args := [d1, d2] }
  | _ => none }
def nodeDeepRow : OpenClaim := { program := "ytabkcbaknjenmaa", sum := "e49c98f9abdeab2b838c9c1c1c09b3713aea7edcb7f12a344745d606109ffc68", func := "litmus/litmuslaw06.NodeDeep", spec := "nodeDeep", unfollowed := true, recurses := true, apart := false }
def NodeDeepSaid : Prop := nodeDeepRow.holds Try.pinned (OpenSpec.ofChange nodeDeepSpec)

/-- ITS FALSE NEIGHBOUR: 'it returns false'. Refute it at one input. -/
def nodeDeepWrong : ChangeSpec := { name := "nodeDeep", fn := fun _ => fun
  | [d1, d2] => { results := [.lit (.bool false)], args := [d1, d2] }
  | _ => none }
def NodeDeepWrongFalsely : Prop := nodeDeepRow.holds Try.pinned (OpenSpec.ofChange nodeDeepWrong)

/-- 'litmuslaw06.NodeLess': WHATEVER THE INPUT: true; the input reads as it did. -/
def nodeLessSpec : ChangeSpec := { name := "nodeLess", fn := fun _ => fun
  | [d1, d2] => { results := [.lit (.bool true)], args := [d1, d2] }
  | _ => none }
def nodeLessRow : OpenClaim := { program := "ytabkcbaknjenmaa", sum := "e49c98f9abdeab2b838c9c1c1c09b3713aea7edcb7f12a344745d606109ffc68", func := "litmus/litmuslaw06.NodeLess", spec := "nodeLess", unfollowed := true, recurses := true, apart := false }
def NodeLessSaid : Prop := nodeLessRow.holds Try.pinned (OpenSpec.ofChange nodeLessSpec)

/-- ITS FALSE NEIGHBOUR: 'it returns false'. Refute it at one input. -/
def nodeLessWrong : ChangeSpec := { name := "nodeLess", fn := fun _ => fun
  | [d1, d2] => { results := [.lit (.bool false)], args := [d1, d2] }
  | _ => none }
def NodeLessWrongFalsely : Prop := nodeLessRow.holds Try.pinned (OpenSpec.ofChange nodeLessWrong)

/-- 'litmuslaw06.NodeKnown': WHATEVER THE INPUT: true; the input reads as it did. -/
def nodeKnownSpec : ChangeSpec := { name := "nodeKnown", fn := fun _ => fun
  | [] => { results := [.lit (.bool true)], args := [] }
  | _ => none }
def nodeKnownRow : OpenClaim := { program := "ytabkcbaknjenmaa", sum := "e49c98f9abdeab2b838c9c1c1c09b3713aea7edcb7f12a344745d606109ffc68", func := "litmus/litmuslaw06.NodeKnown", spec := "nodeKnown", unfollowed := true, recurses := true, apart := false }
def NodeKnownSaid : Prop := nodeKnownRow.holds Try.pinned (OpenSpec.ofChange nodeKnownSpec)

/-- ITS FALSE NEIGHBOUR: 'it returns false'. Refute it at one input. -/
def nodeKnownWrong : ChangeSpec := { name := "nodeKnown", fn := fun _ => fun
  | [] => { results := [.lit (.bool false)], args := [] }
  | _ => none }
def NodeKnownWrongFalsely : Prop := nodeKnownRow.holds Try.pinned (OpenSpec.ofChange nodeKnownWrong)

/-- 'litmuslaw06.NodeCopies': WHATEVER THE INPUT: true; the input reads as it did. -/
def nodeCopiesSpec : ChangeSpec := { name := "nodeCopies", fn := fun _ => fun
  | [d1, d2] => { results := [.lit (.bool true)], args := [d1, d2] }
  | _ => none }
def nodeCopiesRow : OpenClaim := { program := "ytabkcbaknjenmaa", sum := "e49c98f9abdeab2b838c9c1c1c09b3713aea7edcb7f12a344745d606109ffc68", func := "litmus/litmuslaw06.NodeCopies", spec := "nodeCopies", unfollowed := true, recurses := true, apart := false }
def NodeCopiesSaid : Prop := nodeCopiesRow.holds Try.pinned (OpenSpec.ofChange nodeCopiesSpec)

/-- ITS FALSE NEIGHBOUR: 'it returns false'. Refute it at one input. -/
def nodeCopiesWrong : ChangeSpec := { name := "nodeCopies", fn := fun _ => fun
  | [d1, d2] => { results := [.lit (.bool false)], args := [d1, d2] }
  | _ => none }
def NodeCopiesWrongFalsely : Prop := nodeCopiesRow.holds Try.pinned (OpenSpec.ofChange nodeCopiesWrong)

/- THE SECOND FORM. 'bulk': how many values and letters a reading holds, each counted each time it is reached (what is shared counts as often as it is met; a slice's spare places count too). A statement '..UptoSaid' is the law's where the arguments, and the package variables that the reading takes, are together of bulk at most 1048576: NARROWER than '..Said'. Prove '..Said' where nothing that the law and all that it calls make is longer than what came in: it says more and counts as full. Else prove '..UptoSaid'. A law counts once. -/
mutual
def uptoBulk {H : Type} : DataW H → Nat
  | .lit (.string bytes) => bytes.length + 1
  | .lit _ => 1
  | .nil => 1
  | .ptr d => uptoBulk d + 1
  | .slice elems spare => uptoBulkAll elems + uptoBulkAll spare + 1
  | .agg parts => uptoBulkAll parts + 1
  | .iface _ d => uptoBulk d + 1
  | .map entries => uptoBulkEntries entries + 1
  | .held _ => 1
def uptoBulkAll {H : Type} : List (DataW H) → Nat
  | [] => 0
  | d :: r => uptoBulk d + uptoBulkAll r
def uptoBulkEntries {H : Type} : List (Lit × DataW H) → Nat
  | [] => 0
  | x :: r => uptoBulkEntry x + uptoBulkEntries r
def uptoBulkEntry {H : Type} : Lit × DataW H → Nat
  | (.string bytes, d) => bytes.length + uptoBulk d + 1
  | (_, d) => uptoBulk d + 1
 end
def uptoSmall : (H : Type) → List (DataW H) → Bool := fun _ ds => decide (uptoBulkAll ds ≤ 1048576)
def OpenSpec.upto (s : _root_.Go.ChangeSpec) : _root_.Go.OpenSpec := { _root_.Go.OpenSpec.ofChange s with cond := some uptoSmall }

/-- 'litmuslaw06.NodeTells', WHERE WHAT IT READS IS OF BULK AT MOST 1048576: true; the input reads as it did. -/
def nodeTellsUptoRow : OpenClaim := { program := "ytabkcbaknjenmaa", sum := "e49c98f9abdeab2b838c9c1c1c09b3713aea7edcb7f12a344745d606109ffc68", func := "litmus/litmuslaw06.NodeTells", spec := "nodeTells", unfollowed := true, recurses := true, apart := false, narrowed := true }
def NodeTellsUptoSaid : Prop := nodeTellsUptoRow.holds Try.pinned (OpenSpec.upto nodeTellsSpec)

/-- 'litmuslaw06.NodeParts', WHERE WHAT IT READS IS OF BULK AT MOST 1048576: true; the input reads as it did. -/
def nodePartsUptoRow : OpenClaim := { program := "ytabkcbaknjenmaa", sum := "e49c98f9abdeab2b838c9c1c1c09b3713aea7edcb7f12a344745d606109ffc68", func := "litmus/litmuslaw06.NodeParts", spec := "nodeParts", unfollowed := true, recurses := true, apart := false, narrowed := true }
def NodePartsUptoSaid : Prop := nodePartsUptoRow.holds Try.pinned (OpenSpec.upto nodePartsSpec)

/-- 'litmuslaw06.NodeDeep', WHERE WHAT IT READS IS OF BULK AT MOST 1048576: true; the input reads as it did. -/
def nodeDeepUptoRow : OpenClaim := { program := "ytabkcbaknjenmaa", sum := "e49c98f9abdeab2b838c9c1c1c09b3713aea7edcb7f12a344745d606109ffc68", func := "litmus/litmuslaw06.NodeDeep", spec := "nodeDeep", unfollowed := true, recurses := true, apart := false, narrowed := true }
def NodeDeepUptoSaid : Prop := nodeDeepUptoRow.holds Try.pinned (OpenSpec.upto nodeDeepSpec)

/-- 'litmuslaw06.NodeLess', WHERE WHAT IT READS IS OF BULK AT MOST 1048576: true; the input reads as it did. -/
def nodeLessUptoRow : OpenClaim := { program := "ytabkcbaknjenmaa", sum := "e49c98f9abdeab2b838c9c1c1c09b3713aea7edcb7f12a344745d606109ffc68", func := "litmus/litmuslaw06.NodeLess", spec := "nodeLess", unfollowed := true, recurses := true, apart := false, narrowed := true }
def NodeLessUptoSaid : Prop := nodeLessUptoRow.holds Try.pinned (OpenSpec.upto nodeLessSpec)

/-- 'litmuslaw06.NodeKnown', WHERE WHAT IT READS IS OF BULK AT MOST 1048576: true; the input reads as it did. -/
def nodeKnownUptoRow : OpenClaim := { program := "ytabkcbaknjenmaa", sum := "e49c98f9abdeab2b838c9c1c1c09b3713aea7edcb7f12a344745d606109ffc68", func := "litmus/litmuslaw06.NodeKnown", spec := "nodeKnown", unfollowed := true, recurses := true, apart := false, narrowed := true }
def NodeKnownUptoSaid : Prop := nodeKnownUptoRow.holds Try.pinned (OpenSpec.upto nodeKnownSpec)

/-- 'litmuslaw06.NodeCopies', WHERE WHAT IT READS IS OF BULK AT MOST 1048576: true; the input reads as it did. -/
def nodeCopiesUptoRow : OpenClaim := { program := "ytabkcbaknjenmaa", sum := "e49c98f9abdeab2b838c9c1c1c09b3713aea7edcb7f12a344745d606109ffc68", func := "litmus/litmuslaw06.NodeCopies", spec := "nodeCopies", unfollowed := true, recurses := true, apart := false, narrowed := true }
def NodeCopiesUptoSaid : Prop := nodeCopiesUptoRow.holds Try.pinned (OpenSpec.upto nodeCopiesSpec)

end Rows
end Go.Proofs.Ytabkcbaknjenmaa
