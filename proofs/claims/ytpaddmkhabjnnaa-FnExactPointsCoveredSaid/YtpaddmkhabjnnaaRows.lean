/-
  No cell of these rows narrows 'for every input' (looked for: loops, veiled, ifaces, maps, wideKeys, modest, calm, conditions, laid).
  DERIVED. THE GIVEN ROWS OF THIS SEAT. 6 by the template 'for every input the law returns true; each argument reads behind the call as it read before'; 0 by the template 'total and deterministic' (their statements: YtpaddmkhabjnnaaTotals.lean).
  GIVEN WITH THE SEED: the statements are not yours to turn. If you find one false, say at which input.
  Laid BY PROGRAM, IN A SANDBOX (cutbox-rows.mjs): the forced cells as the released guide's own fill.sh prints them over the translation 7a7cb651aefb4d79… (all of the seat's roots in one cut). By AI agents, Wed Nov 11 2026. No macro, syntax, notation, axiom, sorry.
-/
import Derived.Test.YtpaddmkhabjnnaaChecked
import GoSem.Claim
import GoSem.ClaimJoined
import GoSem.ClaimMapViews
import Derived.JoinedTies
import Derived.KernelRfl
namespace Go.Proofs.Ytpaddmkhabjnnaa
/- THE CELL 'sum', in the pinned program and in every row, IS THE sha256 OF THE DUMP (.gsa) THAT YtpaddmkhabjnnaaProg.lean LOADS. Nothing in Lean hashes anything: it is a label: what it is worth is what the hold of that sum in a sandbox is worth. -/
noncomputable def Try.pinned : Pinned := { name := "ytpaddmkhabjnnaa", sum := "7a7cb651aefb4d79477d8cc4df4522a1db58ec36a7dc643e0c9b5fde69ad9bcc", checked := Try.checked }
namespace Rows
def none {H : Type} : Left H := { results := [], args := [] }

/-- 'laws.FnExactIsModel': WHATEVER THE INPUT: true; the input reads as it did. -/
def fnExactIsModelSpec : ChangeSpec := { name := "fnExactIsModel", fn := fun _ => fun
  | [d] => { results := [.lit (.bool true)], args := [d] }
  | _ => none }
def fnExactIsModelRow : OpenClaim := { program := "ytpaddmkhabjnnaa", sum := "7a7cb651aefb4d79477d8cc4df4522a1db58ec36a7dc643e0c9b5fde69ad9bcc", func := "loop.example/g02081/laws.FnExactIsModel", spec := "fnExactIsModel", apart := false }
def FnExactIsModelSaid : Prop := fnExactIsModelRow.holds Try.pinned (OpenSpec.ofChange fnExactIsModelSpec)

/-- ITS FALSE NEIGHBOUR: 'it returns false'. Refute it at one input. -/
def fnExactIsModelWrong : ChangeSpec := { name := "fnExactIsModel", fn := fun _ => fun
  | [d] => { results := [.lit (.bool false)], args := [d] }
  | _ => none }
def FnExactIsModelWrongFalsely : Prop := fnExactIsModelRow.holds Try.pinned (OpenSpec.ofChange fnExactIsModelWrong)

/-- 'laws.FnExactIsTree': WHATEVER THE INPUT: true; the input reads as it did. -/
def fnExactIsTreeSpec : ChangeSpec := { name := "fnExactIsTree", fn := fun _ => fun
  | [d] => { results := [.lit (.bool true)], args := [d] }
  | _ => none }
def fnExactIsTreeRow : OpenClaim := { program := "ytpaddmkhabjnnaa", sum := "7a7cb651aefb4d79477d8cc4df4522a1db58ec36a7dc643e0c9b5fde69ad9bcc", func := "loop.example/g02081/laws.FnExactIsTree", spec := "fnExactIsTree", apart := false }
def FnExactIsTreeSaid : Prop := fnExactIsTreeRow.holds Try.pinned (OpenSpec.ofChange fnExactIsTreeSpec)

/-- ITS FALSE NEIGHBOUR: 'it returns false'. Refute it at one input. -/
def fnExactIsTreeWrong : ChangeSpec := { name := "fnExactIsTree", fn := fun _ => fun
  | [d] => { results := [.lit (.bool false)], args := [d] }
  | _ => none }
def FnExactIsTreeWrongFalsely : Prop := fnExactIsTreeRow.holds Try.pinned (OpenSpec.ofChange fnExactIsTreeWrong)

/-- 'laws.FnExactEqualTrees': WHATEVER THE INPUT: true; the input reads as it did. -/
def fnExactEqualTreesSpec : ChangeSpec := { name := "fnExactEqualTrees", fn := fun _ => fun
  | [d1, d2] => { results := [.lit (.bool true)], args := [d1, d2] }
  | _ => none }
def fnExactEqualTreesRow : OpenClaim := { program := "ytpaddmkhabjnnaa", sum := "7a7cb651aefb4d79477d8cc4df4522a1db58ec36a7dc643e0c9b5fde69ad9bcc", func := "loop.example/g02081/laws.FnExactEqualTrees", spec := "fnExactEqualTrees", apart := false }
def FnExactEqualTreesSaid : Prop := fnExactEqualTreesRow.holds Try.pinned (OpenSpec.ofChange fnExactEqualTreesSpec)

/-- ITS FALSE NEIGHBOUR: 'it returns false'. Refute it at one input. -/
def fnExactEqualTreesWrong : ChangeSpec := { name := "fnExactEqualTrees", fn := fun _ => fun
  | [d1, d2] => { results := [.lit (.bool false)], args := [d1, d2] }
  | _ => none }
def FnExactEqualTreesWrongFalsely : Prop := fnExactEqualTreesRow.holds Try.pinned (OpenSpec.ofChange fnExactEqualTreesWrong)

/-- 'laws.FnExactIsUnitModel': WHATEVER THE INPUT: true; the input reads as it did. -/
def fnExactIsUnitModelSpec : ChangeSpec := { name := "fnExactIsUnitModel", fn := fun _ => fun
  | [d1, d2] => { results := [.lit (.bool true)], args := [d1, d2] }
  | _ => none }
def fnExactIsUnitModelRow : OpenClaim := { program := "ytpaddmkhabjnnaa", sum := "7a7cb651aefb4d79477d8cc4df4522a1db58ec36a7dc643e0c9b5fde69ad9bcc", func := "loop.example/g02081/laws.FnExactIsUnitModel", spec := "fnExactIsUnitModel", apart := false }
def FnExactIsUnitModelSaid : Prop := fnExactIsUnitModelRow.holds Try.pinned (OpenSpec.ofChange fnExactIsUnitModelSpec)

/-- ITS FALSE NEIGHBOUR: 'it returns false'. Refute it at one input. -/
def fnExactIsUnitModelWrong : ChangeSpec := { name := "fnExactIsUnitModel", fn := fun _ => fun
  | [d1, d2] => { results := [.lit (.bool false)], args := [d1, d2] }
  | _ => none }
def FnExactIsUnitModelWrongFalsely : Prop := fnExactIsUnitModelRow.holds Try.pinned (OpenSpec.ofChange fnExactIsUnitModelWrong)

/-- 'laws.FnExactPointsCovered': WHATEVER THE INPUT: true; the input reads as it did. -/
def fnExactPointsCoveredSpec : ChangeSpec := { name := "fnExactPointsCovered", fn := fun _ => fun
  | [d1, d2] => { results := [.lit (.bool true)], args := [d1, d2] }
  | _ => none }
def fnExactPointsCoveredRow : OpenClaim := { program := "ytpaddmkhabjnnaa", sum := "7a7cb651aefb4d79477d8cc4df4522a1db58ec36a7dc643e0c9b5fde69ad9bcc", func := "loop.example/g02081/laws.FnExactPointsCovered", spec := "fnExactPointsCovered", apart := false }
def FnExactPointsCoveredSaid : Prop := fnExactPointsCoveredRow.holds Try.pinned (OpenSpec.ofChange fnExactPointsCoveredSpec)

/-- ITS FALSE NEIGHBOUR: 'it returns false'. Refute it at one input. -/
def fnExactPointsCoveredWrong : ChangeSpec := { name := "fnExactPointsCovered", fn := fun _ => fun
  | [d1, d2] => { results := [.lit (.bool false)], args := [d1, d2] }
  | _ => none }
def FnExactPointsCoveredWrongFalsely : Prop := fnExactPointsCoveredRow.holds Try.pinned (OpenSpec.ofChange fnExactPointsCoveredWrong)

/-- 'laws.FnExactIsProperModel': WHATEVER THE INPUT: true; the input reads as it did. -/
def fnExactIsProperModelSpec : ChangeSpec := { name := "fnExactIsProperModel", fn := fun _ => fun
  | [d] => { results := [.lit (.bool true)], args := [d] }
  | _ => none }
def fnExactIsProperModelRow : OpenClaim := { program := "ytpaddmkhabjnnaa", sum := "7a7cb651aefb4d79477d8cc4df4522a1db58ec36a7dc643e0c9b5fde69ad9bcc", func := "loop.example/g02081/laws.FnExactIsProperModel", spec := "fnExactIsProperModel", apart := false }
def FnExactIsProperModelSaid : Prop := fnExactIsProperModelRow.holds Try.pinned (OpenSpec.ofChange fnExactIsProperModelSpec)

/-- ITS FALSE NEIGHBOUR: 'it returns false'. Refute it at one input. -/
def fnExactIsProperModelWrong : ChangeSpec := { name := "fnExactIsProperModel", fn := fun _ => fun
  | [d] => { results := [.lit (.bool false)], args := [d] }
  | _ => none }
def FnExactIsProperModelWrongFalsely : Prop := fnExactIsProperModelRow.holds Try.pinned (OpenSpec.ofChange fnExactIsProperModelWrong)

/- THE SECOND FORM. 'bulk': how many values and letters a reading holds, each counted each time it is reached (what is shared counts as often as it is met; a slice's spare places count too). A statement '..UptoSaid' is the law's where the arguments, and the package variables that the reading takes, are together of bulk at most 1048576: NARROWER than '..Said'. Prove '..Said' where nothing that the law and all that it calls make is longer than what came in: it says more and counts as full. Else prove '..UptoSaid'. A law counts once. -/
mutual
def uptoBulk {H : Type} : DataW H → Nat
  | .lit (.string bytes) => bytes.length + 1
  | .lit _ => 1
  | .nil => 1
  | .ptr d => uptoBulk d + 1
  | .slice elems spare => uptoBulkAll elems + uptoBulkAll spare + 1
  | .agg parts => uptoBulkAll parts + 1
  | .iface _ d => uptoBulk d + 1
  | .map entries => uptoBulkEntries entries + 1
  | .held _ => 1
def uptoBulkAll {H : Type} : List (DataW H) → Nat
  | [] => 0
  | d :: r => uptoBulk d + uptoBulkAll r
def uptoBulkEntries {H : Type} : List (Lit × DataW H) → Nat
  | [] => 0
  | x :: r => uptoBulkEntry x + uptoBulkEntries r
def uptoBulkEntry {H : Type} : Lit × DataW H → Nat
  | (.string bytes, d) => bytes.length + uptoBulk d + 1
  | (_, d) => uptoBulk d + 1
 end
def uptoSmall : (H : Type) → List (DataW H) → Bool := fun _ ds => decide (uptoBulkAll ds ≤ 1048576)
def OpenSpec.upto (s : _root_.Go.ChangeSpec) : _root_.Go.OpenSpec := { _root_.Go.OpenSpec.ofChange s with cond := some uptoSmall }

/-- 'laws.FnExactIsModel', WHERE WHAT IT READS IS OF BULK AT MOST 1048576: true; the input reads as it did. -/
def fnExactIsModelUptoRow : OpenClaim := { program := "ytpaddmkhabjnnaa", sum := "7a7cb651aefb4d79477d8cc4df4522a1db58ec36a7dc643e0c9b5fde69ad9bcc", func := "loop.example/g02081/laws.FnExactIsModel", spec := "fnExactIsModel", apart := false, narrowed := true }
def FnExactIsModelUptoSaid : Prop := fnExactIsModelUptoRow.holds Try.pinned (OpenSpec.upto fnExactIsModelSpec)

/-- 'laws.FnExactIsTree', WHERE WHAT IT READS IS OF BULK AT MOST 1048576: true; the input reads as it did. -/
def fnExactIsTreeUptoRow : OpenClaim := { program := "ytpaddmkhabjnnaa", sum := "7a7cb651aefb4d79477d8cc4df4522a1db58ec36a7dc643e0c9b5fde69ad9bcc", func := "loop.example/g02081/laws.FnExactIsTree", spec := "fnExactIsTree", apart := false, narrowed := true }
def FnExactIsTreeUptoSaid : Prop := fnExactIsTreeUptoRow.holds Try.pinned (OpenSpec.upto fnExactIsTreeSpec)

/-- 'laws.FnExactEqualTrees', WHERE WHAT IT READS IS OF BULK AT MOST 1048576: true; the input reads as it did. -/
def fnExactEqualTreesUptoRow : OpenClaim := { program := "ytpaddmkhabjnnaa", sum := "7a7cb651aefb4d79477d8cc4df4522a1db58ec36a7dc643e0c9b5fde69ad9bcc", func := "loop.example/g02081/laws.FnExactEqualTrees", spec := "fnExactEqualTrees", apart := false, narrowed := true }
def FnExactEqualTreesUptoSaid : Prop := fnExactEqualTreesUptoRow.holds Try.pinned (OpenSpec.upto fnExactEqualTreesSpec)

/-- 'laws.FnExactIsUnitModel', WHERE WHAT IT READS IS OF BULK AT MOST 1048576: true; the input reads as it did. -/
def fnExactIsUnitModelUptoRow : OpenClaim := { program := "ytpaddmkhabjnnaa", sum := "7a7cb651aefb4d79477d8cc4df4522a1db58ec36a7dc643e0c9b5fde69ad9bcc", func := "loop.example/g02081/laws.FnExactIsUnitModel", spec := "fnExactIsUnitModel", apart := false, narrowed := true }
def FnExactIsUnitModelUptoSaid : Prop := fnExactIsUnitModelUptoRow.holds Try.pinned (OpenSpec.upto fnExactIsUnitModelSpec)

/-- 'laws.FnExactPointsCovered', WHERE WHAT IT READS IS OF BULK AT MOST 1048576: true; the input reads as it did. -/
def fnExactPointsCoveredUptoRow : OpenClaim := { program := "ytpaddmkhabjnnaa", sum := "7a7cb651aefb4d79477d8cc4df4522a1db58ec36a7dc643e0c9b5fde69ad9bcc", func := "loop.example/g02081/laws.FnExactPointsCovered", spec := "fnExactPointsCovered", apart := false, narrowed := true }
def FnExactPointsCoveredUptoSaid : Prop := fnExactPointsCoveredUptoRow.holds Try.pinned (OpenSpec.upto fnExactPointsCoveredSpec)

/-- 'laws.FnExactIsProperModel', WHERE WHAT IT READS IS OF BULK AT MOST 1048576: true; the input reads as it did. -/
def fnExactIsProperModelUptoRow : OpenClaim := { program := "ytpaddmkhabjnnaa", sum := "7a7cb651aefb4d79477d8cc4df4522a1db58ec36a7dc643e0c9b5fde69ad9bcc", func := "loop.example/g02081/laws.FnExactIsProperModel", spec := "fnExactIsProperModel", apart := false, narrowed := true }
def FnExactIsProperModelUptoSaid : Prop := fnExactIsProperModelUptoRow.holds Try.pinned (OpenSpec.upto fnExactIsProperModelSpec)

end Rows
end Go.Proofs.Ytpaddmkhabjnnaa
