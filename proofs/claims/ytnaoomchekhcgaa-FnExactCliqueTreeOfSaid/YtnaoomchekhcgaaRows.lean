/-
  No cell of these rows narrows 'for every input' (looked for: loops, veiled, ifaces, maps, wideKeys, modest, calm, conditions, laid).
  DERIVED. THE GIVEN ROWS OF THIS SEAT. 8 by the template 'for every input the law returns true; each argument reads behind the call as it read before'; 0 by the template 'total and deterministic' (their statements: YtnaoomchekhcgaaTotals.lean).
  GIVEN WITH THE SEED: the statements are not yours to turn. If you find one false, say at which input.
  Laid BY PROGRAM, IN A SANDBOX (cutbox-rows.mjs): the forced cells as the released guide's own fill.sh prints them over the translation 7c14a97554b0d88b… (all of the seat's roots in one cut). By AI agents, Wed Nov 11 2026. No macro, syntax, notation, axiom, sorry.
-/
import Derived.Test.YtnaoomchekhcgaaChecked
import GoSem.Claim
import GoSem.ClaimJoined
import GoSem.ClaimMapViews
import Derived.JoinedTies
import Derived.KernelRfl
namespace Go.Proofs.Ytnaoomchekhcgaa
/- THE CELL 'sum', in the pinned program and in every row, IS THE sha256 OF THE DUMP (.gsa) THAT YtnaoomchekhcgaaProg.lean LOADS. Nothing in Lean hashes anything: it is a label: what it is worth is what the hold of that sum in a sandbox is worth. -/
noncomputable def Try.pinned : Pinned := { name := "ytnaoomchekhcgaa", sum := "7c14a97554b0d88b4c9516c72cac3da3d6f014364a3117112e86f3444ce0c815", checked := Try.checked }
namespace Rows
def none {H : Type} : Left H := { results := [], args := [] }

/-- 'laws.FnExactCountCliqueOrders': WHATEVER THE INPUT: true; the input reads as it did. -/
def fnExactCountCliqueOrdersSpec : ChangeSpec := { name := "fnExactCountCliqueOrders", fn := fun _ => fun
  | [d] => { results := [.lit (.bool true)], args := [d] }
  | _ => none }
def fnExactCountCliqueOrdersRow : OpenClaim := { program := "ytnaoomchekhcgaa", sum := "7c14a97554b0d88b4c9516c72cac3da3d6f014364a3117112e86f3444ce0c815", func := "loop.example/g02081/laws.FnExactCountCliqueOrders", spec := "fnExactCountCliqueOrders", unfollowed := true, recurses := true, apart := false }
def FnExactCountCliqueOrdersSaid : Prop := fnExactCountCliqueOrdersRow.holds Try.pinned (OpenSpec.ofChange fnExactCountCliqueOrdersSpec)

/-- ITS FALSE NEIGHBOUR: 'it returns false'. Refute it at one input. -/
def fnExactCountCliqueOrdersWrong : ChangeSpec := { name := "fnExactCountCliqueOrders", fn := fun _ => fun
  | [d] => { results := [.lit (.bool false)], args := [d] }
  | _ => none }
def FnExactCountCliqueOrdersWrongFalsely : Prop := fnExactCountCliqueOrdersRow.holds Try.pinned (OpenSpec.ofChange fnExactCountCliqueOrdersWrong)

/-- 'laws.FnExactIsInterval': WHATEVER THE INPUT: true; the input reads as it did. -/
def fnExactIsIntervalSpec : ChangeSpec := { name := "fnExactIsInterval", fn := fun _ => fun
  | [d] => { results := [.lit (.bool true)], args := [d] }
  | _ => none }
def fnExactIsIntervalRow : OpenClaim := { program := "ytnaoomchekhcgaa", sum := "7c14a97554b0d88b4c9516c72cac3da3d6f014364a3117112e86f3444ce0c815", func := "loop.example/g02081/laws.FnExactIsInterval", spec := "fnExactIsInterval", unfollowed := true, recurses := true, apart := false }
def FnExactIsIntervalSaid : Prop := fnExactIsIntervalRow.holds Try.pinned (OpenSpec.ofChange fnExactIsIntervalSpec)

/-- ITS FALSE NEIGHBOUR: 'it returns false'. Refute it at one input. -/
def fnExactIsIntervalWrong : ChangeSpec := { name := "fnExactIsInterval", fn := fun _ => fun
  | [d] => { results := [.lit (.bool false)], args := [d] }
  | _ => none }
def FnExactIsIntervalWrongFalsely : Prop := fnExactIsIntervalRow.holds Try.pinned (OpenSpec.ofChange fnExactIsIntervalWrong)

/-- 'laws.FnExactCliqueTreeOf': WHATEVER THE INPUT: true; the input reads as it did. -/
def fnExactCliqueTreeOfSpec : ChangeSpec := { name := "fnExactCliqueTreeOf", fn := fun _ => fun
  | [d] => { results := [.lit (.bool true)], args := [d] }
  | _ => none }
def fnExactCliqueTreeOfRow : OpenClaim := { program := "ytnaoomchekhcgaa", sum := "7c14a97554b0d88b4c9516c72cac3da3d6f014364a3117112e86f3444ce0c815", func := "loop.example/g02081/laws.FnExactCliqueTreeOf", spec := "fnExactCliqueTreeOf", unfollowed := true, recurses := true, apart := false }
def FnExactCliqueTreeOfSaid : Prop := fnExactCliqueTreeOfRow.holds Try.pinned (OpenSpec.ofChange fnExactCliqueTreeOfSpec)

/-- ITS FALSE NEIGHBOUR: 'it returns false'. Refute it at one input. -/
def fnExactCliqueTreeOfWrong : ChangeSpec := { name := "fnExactCliqueTreeOf", fn := fun _ => fun
  | [d] => { results := [.lit (.bool false)], args := [d] }
  | _ => none }
def FnExactCliqueTreeOfWrongFalsely : Prop := fnExactCliqueTreeOfRow.holds Try.pinned (OpenSpec.ofChange fnExactCliqueTreeOfWrong)

/-- 'laws.FnExactCliqueOrderOf': WHATEVER THE INPUT: true; the input reads as it did. -/
def fnExactCliqueOrderOfSpec : ChangeSpec := { name := "fnExactCliqueOrderOf", fn := fun _ => fun
  | [d] => { results := [.lit (.bool true)], args := [d] }
  | _ => none }
def fnExactCliqueOrderOfRow : OpenClaim := { program := "ytnaoomchekhcgaa", sum := "7c14a97554b0d88b4c9516c72cac3da3d6f014364a3117112e86f3444ce0c815", func := "loop.example/g02081/laws.FnExactCliqueOrderOf", spec := "fnExactCliqueOrderOf", unfollowed := true, recurses := true, apart := false }
def FnExactCliqueOrderOfSaid : Prop := fnExactCliqueOrderOfRow.holds Try.pinned (OpenSpec.ofChange fnExactCliqueOrderOfSpec)

/-- ITS FALSE NEIGHBOUR: 'it returns false'. Refute it at one input. -/
def fnExactCliqueOrderOfWrong : ChangeSpec := { name := "fnExactCliqueOrderOf", fn := fun _ => fun
  | [d] => { results := [.lit (.bool false)], args := [d] }
  | _ => none }
def FnExactCliqueOrderOfWrongFalsely : Prop := fnExactCliqueOrderOfRow.holds Try.pinned (OpenSpec.ofChange fnExactCliqueOrderOfWrong)

/-- 'laws.FnExactIntervalModelOf': WHATEVER THE INPUT: true; the input reads as it did. -/
def fnExactIntervalModelOfSpec : ChangeSpec := { name := "fnExactIntervalModelOf", fn := fun _ => fun
  | [d] => { results := [.lit (.bool true)], args := [d] }
  | _ => none }
def fnExactIntervalModelOfRow : OpenClaim := { program := "ytnaoomchekhcgaa", sum := "7c14a97554b0d88b4c9516c72cac3da3d6f014364a3117112e86f3444ce0c815", func := "loop.example/g02081/laws.FnExactIntervalModelOf", spec := "fnExactIntervalModelOf", unfollowed := true, recurses := true, apart := false }
def FnExactIntervalModelOfSaid : Prop := fnExactIntervalModelOfRow.holds Try.pinned (OpenSpec.ofChange fnExactIntervalModelOfSpec)

/-- ITS FALSE NEIGHBOUR: 'it returns false'. Refute it at one input. -/
def fnExactIntervalModelOfWrong : ChangeSpec := { name := "fnExactIntervalModelOf", fn := fun _ => fun
  | [d] => { results := [.lit (.bool false)], args := [d] }
  | _ => none }
def FnExactIntervalModelOfWrongFalsely : Prop := fnExactIntervalModelOfRow.holds Try.pinned (OpenSpec.ofChange fnExactIntervalModelOfWrong)

/-- 'laws.FnExactTreeSeparators': WHATEVER THE INPUT: true; the input reads as it did. -/
def fnExactTreeSeparatorsSpec : ChangeSpec := { name := "fnExactTreeSeparators", fn := fun _ => fun
  | [d] => { results := [.lit (.bool true)], args := [d] }
  | _ => none }
def fnExactTreeSeparatorsRow : OpenClaim := { program := "ytnaoomchekhcgaa", sum := "7c14a97554b0d88b4c9516c72cac3da3d6f014364a3117112e86f3444ce0c815", func := "loop.example/g02081/laws.FnExactTreeSeparators", spec := "fnExactTreeSeparators", recurses := true, apart := false }
def FnExactTreeSeparatorsSaid : Prop := fnExactTreeSeparatorsRow.holds Try.pinned (OpenSpec.ofChange fnExactTreeSeparatorsSpec)

/-- ITS FALSE NEIGHBOUR: 'it returns false'. Refute it at one input. -/
def fnExactTreeSeparatorsWrong : ChangeSpec := { name := "fnExactTreeSeparators", fn := fun _ => fun
  | [d] => { results := [.lit (.bool false)], args := [d] }
  | _ => none }
def FnExactTreeSeparatorsWrongFalsely : Prop := fnExactTreeSeparatorsRow.holds Try.pinned (OpenSpec.ofChange fnExactTreeSeparatorsWrong)

/-- 'laws.FnExactIsCliqueOrder': WHATEVER THE INPUT: true; the input reads as it did. -/
def fnExactIsCliqueOrderSpec : ChangeSpec := { name := "fnExactIsCliqueOrder", fn := fun _ => fun
  | [d1, d2] => { results := [.lit (.bool true)], args := [d1, d2] }
  | _ => none }
def fnExactIsCliqueOrderRow : OpenClaim := { program := "ytnaoomchekhcgaa", sum := "7c14a97554b0d88b4c9516c72cac3da3d6f014364a3117112e86f3444ce0c815", func := "loop.example/g02081/laws.FnExactIsCliqueOrder", spec := "fnExactIsCliqueOrder", recurses := true, apart := false }
def FnExactIsCliqueOrderSaid : Prop := fnExactIsCliqueOrderRow.holds Try.pinned (OpenSpec.ofChange fnExactIsCliqueOrderSpec)

/-- ITS FALSE NEIGHBOUR: 'it returns false'. Refute it at one input. -/
def fnExactIsCliqueOrderWrong : ChangeSpec := { name := "fnExactIsCliqueOrder", fn := fun _ => fun
  | [d1, d2] => { results := [.lit (.bool false)], args := [d1, d2] }
  | _ => none }
def FnExactIsCliqueOrderWrongFalsely : Prop := fnExactIsCliqueOrderRow.holds Try.pinned (OpenSpec.ofChange fnExactIsCliqueOrderWrong)

/-- 'laws.FnExactIsCliqueTree': WHATEVER THE INPUT: true; the input reads as it did. -/
def fnExactIsCliqueTreeSpec : ChangeSpec := { name := "fnExactIsCliqueTree", fn := fun _ => fun
  | [d1, d2] => { results := [.lit (.bool true)], args := [d1, d2] }
  | _ => none }
def fnExactIsCliqueTreeRow : OpenClaim := { program := "ytnaoomchekhcgaa", sum := "7c14a97554b0d88b4c9516c72cac3da3d6f014364a3117112e86f3444ce0c815", func := "loop.example/g02081/laws.FnExactIsCliqueTree", spec := "fnExactIsCliqueTree", recurses := true, apart := false }
def FnExactIsCliqueTreeSaid : Prop := fnExactIsCliqueTreeRow.holds Try.pinned (OpenSpec.ofChange fnExactIsCliqueTreeSpec)

/-- ITS FALSE NEIGHBOUR: 'it returns false'. Refute it at one input. -/
def fnExactIsCliqueTreeWrong : ChangeSpec := { name := "fnExactIsCliqueTree", fn := fun _ => fun
  | [d1, d2] => { results := [.lit (.bool false)], args := [d1, d2] }
  | _ => none }
def FnExactIsCliqueTreeWrongFalsely : Prop := fnExactIsCliqueTreeRow.holds Try.pinned (OpenSpec.ofChange fnExactIsCliqueTreeWrong)

/- THE SECOND FORM. 'bulk': how many values and letters a reading holds, each counted each time it is reached (what is shared counts as often as it is met; a slice's spare places count too). A statement '..UptoSaid' is the law's where the arguments, and the package variables that the reading takes, are together of bulk at most 1048576: NARROWER than '..Said'. Prove '..Said' where nothing that the law and all that it calls make is longer than what came in: it says more and counts as full. Else prove '..UptoSaid'. A law counts once. -/
mutual
def uptoBulk {H : Type} : DataW H → Nat
  | .lit (.string bytes) => bytes.length + 1
  | .lit _ => 1
  | .nil => 1
  | .ptr d => uptoBulk d + 1
  | .slice elems spare => uptoBulkAll elems + uptoBulkAll spare + 1
  | .agg parts => uptoBulkAll parts + 1
  | .iface _ d => uptoBulk d + 1
  | .map entries => uptoBulkEntries entries + 1
  | .held _ => 1
def uptoBulkAll {H : Type} : List (DataW H) → Nat
  | [] => 0
  | d :: r => uptoBulk d + uptoBulkAll r
def uptoBulkEntries {H : Type} : List (Lit × DataW H) → Nat
  | [] => 0
  | x :: r => uptoBulkEntry x + uptoBulkEntries r
def uptoBulkEntry {H : Type} : Lit × DataW H → Nat
  | (.string bytes, d) => bytes.length + uptoBulk d + 1
  | (_, d) => uptoBulk d + 1
 end
def uptoSmall : (H : Type) → List (DataW H) → Bool := fun _ ds => decide (uptoBulkAll ds ≤ 1048576)
def OpenSpec.upto (s : _root_.Go.ChangeSpec) : _root_.Go.OpenSpec := { _root_.Go.OpenSpec.ofChange s with cond := some uptoSmall }

/-- 'laws.FnExactCountCliqueOrders', WHERE WHAT IT READS IS OF BULK AT MOST 1048576: true; the input reads as it did. -/
def fnExactCountCliqueOrdersUptoRow : OpenClaim := { program := "ytnaoomchekhcgaa", sum := "7c14a97554b0d88b4c9516c72cac3da3d6f014364a3117112e86f3444ce0c815", func := "loop.example/g02081/laws.FnExactCountCliqueOrders", spec := "fnExactCountCliqueOrders", unfollowed := true, recurses := true, apart := false, narrowed := true }
def FnExactCountCliqueOrdersUptoSaid : Prop := fnExactCountCliqueOrdersUptoRow.holds Try.pinned (OpenSpec.upto fnExactCountCliqueOrdersSpec)

/-- 'laws.FnExactIsInterval', WHERE WHAT IT READS IS OF BULK AT MOST 1048576: true; the input reads as it did. -/
def fnExactIsIntervalUptoRow : OpenClaim := { program := "ytnaoomchekhcgaa", sum := "7c14a97554b0d88b4c9516c72cac3da3d6f014364a3117112e86f3444ce0c815", func := "loop.example/g02081/laws.FnExactIsInterval", spec := "fnExactIsInterval", unfollowed := true, recurses := true, apart := false, narrowed := true }
def FnExactIsIntervalUptoSaid : Prop := fnExactIsIntervalUptoRow.holds Try.pinned (OpenSpec.upto fnExactIsIntervalSpec)

/-- 'laws.FnExactCliqueTreeOf', WHERE WHAT IT READS IS OF BULK AT MOST 1048576: true; the input reads as it did. -/
def fnExactCliqueTreeOfUptoRow : OpenClaim := { program := "ytnaoomchekhcgaa", sum := "7c14a97554b0d88b4c9516c72cac3da3d6f014364a3117112e86f3444ce0c815", func := "loop.example/g02081/laws.FnExactCliqueTreeOf", spec := "fnExactCliqueTreeOf", unfollowed := true, recurses := true, apart := false, narrowed := true }
def FnExactCliqueTreeOfUptoSaid : Prop := fnExactCliqueTreeOfUptoRow.holds Try.pinned (OpenSpec.upto fnExactCliqueTreeOfSpec)

/-- 'laws.FnExactCliqueOrderOf', WHERE WHAT IT READS IS OF BULK AT MOST 1048576: true; the input reads as it did. -/
def fnExactCliqueOrderOfUptoRow : OpenClaim := { program := "ytnaoomchekhcgaa", sum := "7c14a97554b0d88b4c9516c72cac3da3d6f014364a3117112e86f3444ce0c815", func := "loop.example/g02081/laws.FnExactCliqueOrderOf", spec := "fnExactCliqueOrderOf", unfollowed := true, recurses := true, apart := false, narrowed := true }
def FnExactCliqueOrderOfUptoSaid : Prop := fnExactCliqueOrderOfUptoRow.holds Try.pinned (OpenSpec.upto fnExactCliqueOrderOfSpec)

/-- 'laws.FnExactIntervalModelOf', WHERE WHAT IT READS IS OF BULK AT MOST 1048576: true; the input reads as it did. -/
def fnExactIntervalModelOfUptoRow : OpenClaim := { program := "ytnaoomchekhcgaa", sum := "7c14a97554b0d88b4c9516c72cac3da3d6f014364a3117112e86f3444ce0c815", func := "loop.example/g02081/laws.FnExactIntervalModelOf", spec := "fnExactIntervalModelOf", unfollowed := true, recurses := true, apart := false, narrowed := true }
def FnExactIntervalModelOfUptoSaid : Prop := fnExactIntervalModelOfUptoRow.holds Try.pinned (OpenSpec.upto fnExactIntervalModelOfSpec)

/-- 'laws.FnExactTreeSeparators', WHERE WHAT IT READS IS OF BULK AT MOST 1048576: true; the input reads as it did. -/
def fnExactTreeSeparatorsUptoRow : OpenClaim := { program := "ytnaoomchekhcgaa", sum := "7c14a97554b0d88b4c9516c72cac3da3d6f014364a3117112e86f3444ce0c815", func := "loop.example/g02081/laws.FnExactTreeSeparators", spec := "fnExactTreeSeparators", recurses := true, apart := false, narrowed := true }
def FnExactTreeSeparatorsUptoSaid : Prop := fnExactTreeSeparatorsUptoRow.holds Try.pinned (OpenSpec.upto fnExactTreeSeparatorsSpec)

/-- 'laws.FnExactIsCliqueOrder', WHERE WHAT IT READS IS OF BULK AT MOST 1048576: true; the input reads as it did. -/
def fnExactIsCliqueOrderUptoRow : OpenClaim := { program := "ytnaoomchekhcgaa", sum := "7c14a97554b0d88b4c9516c72cac3da3d6f014364a3117112e86f3444ce0c815", func := "loop.example/g02081/laws.FnExactIsCliqueOrder", spec := "fnExactIsCliqueOrder", recurses := true, apart := false, narrowed := true }
def FnExactIsCliqueOrderUptoSaid : Prop := fnExactIsCliqueOrderUptoRow.holds Try.pinned (OpenSpec.upto fnExactIsCliqueOrderSpec)

/-- 'laws.FnExactIsCliqueTree', WHERE WHAT IT READS IS OF BULK AT MOST 1048576: true; the input reads as it did. -/
def fnExactIsCliqueTreeUptoRow : OpenClaim := { program := "ytnaoomchekhcgaa", sum := "7c14a97554b0d88b4c9516c72cac3da3d6f014364a3117112e86f3444ce0c815", func := "loop.example/g02081/laws.FnExactIsCliqueTree", spec := "fnExactIsCliqueTree", recurses := true, apart := false, narrowed := true }
def FnExactIsCliqueTreeUptoSaid : Prop := fnExactIsCliqueTreeUptoRow.holds Try.pinned (OpenSpec.upto fnExactIsCliqueTreeSpec)

end Rows
end Go.Proofs.Ytnaoomchekhcgaa
