/-
  No cell of these rows narrows 'for every input' (looked for: loops, veiled, ifaces, maps, wideKeys, modest, calm, conditions, laid).
  DERIVED. THE GIVEN ROWS OF THIS SEAT. 12 by the template 'for every input the law returns true; each argument reads behind the call as it read before'; 0 by the template 'total and deterministic' (their statements: YtfodbgogeclifaaTotals.lean).
  GIVEN WITH THE SEED: the statements are not yours to turn. If you find one false, say at which input.
  Laid BY PROGRAM, IN A SANDBOX (cutbox-rows.mjs): the forced cells as the released guide's own fill.sh prints them over the translation 910a86e28f3371eb… (all of the seat's roots in one cut). By AI agents, Wed Nov 11 2026. No macro, syntax, notation, axiom, sorry.
-/
import Derived.Test.YtfodbgogeclifaaChecked
import GoSem.Claim
import GoSem.ClaimJoined
import GoSem.ClaimMapViews
import Derived.JoinedTies
import Derived.KernelRfl
namespace Go.Proofs.Ytfodbgogeclifaa
/- THE CELL 'sum', in the pinned program and in every row, IS THE sha256 OF THE DUMP (.gsa) THAT YtfodbgogeclifaaProg.lean LOADS. Nothing in Lean hashes anything: it is a label: what it is worth is what the hold of that sum in a sandbox is worth. -/
noncomputable def Try.pinned : Pinned := { name := "ytfodbgogeclifaa", sum := "910a86e28f3371ebc9ac76476799c9cf3d07d2a1cc7b029792ae89e4241cc2e5", checked := Try.checked }
namespace Rows
def none {H : Type} : Left H := { results := [], args := [] }

/-- 'laws.FnExactModelOfOrder': WHATEVER THE INPUT: true; the input reads as it did. -/
def fnExactModelOfOrderSpec : ChangeSpec := { name := "fnExactModelOfOrder", fn := fun _ => fun
  | [d1, d2] => { results := [.lit (.bool true)], args := [d1, d2] }
  | _ => none }
def fnExactModelOfOrderRow : OpenClaim := { program := "ytfodbgogeclifaa", sum := "910a86e28f3371ebc9ac76476799c9cf3d07d2a1cc7b029792ae89e4241cc2e5", func := "loop.example/g02081/laws.FnExactModelOfOrder", spec := "fnExactModelOfOrder", unfollowed := true, recurses := true, apart := false }
def FnExactModelOfOrderSaid : Prop := fnExactModelOfOrderRow.holds Try.pinned (OpenSpec.ofChange fnExactModelOfOrderSpec)

/-- ITS FALSE NEIGHBOUR: 'it returns false'. Refute it at one input. -/
def fnExactModelOfOrderWrong : ChangeSpec := { name := "fnExactModelOfOrder", fn := fun _ => fun
  | [d1, d2] => { results := [.lit (.bool false)], args := [d1, d2] }
  | _ => none }
def FnExactModelOfOrderWrongFalsely : Prop := fnExactModelOfOrderRow.holds Try.pinned (OpenSpec.ofChange fnExactModelOfOrderWrong)

/-- 'laws.FnExactDeepestPoint': WHATEVER THE INPUT: true; the input reads as it did. -/
def fnExactDeepestPointSpec : ChangeSpec := { name := "fnExactDeepestPoint", fn := fun _ => fun
  | [d] => { results := [.lit (.bool true)], args := [d] }
  | _ => none }
def fnExactDeepestPointRow : OpenClaim := { program := "ytfodbgogeclifaa", sum := "910a86e28f3371ebc9ac76476799c9cf3d07d2a1cc7b029792ae89e4241cc2e5", func := "loop.example/g02081/laws.FnExactDeepestPoint", spec := "fnExactDeepestPoint", apart := false }
def FnExactDeepestPointSaid : Prop := fnExactDeepestPointRow.holds Try.pinned (OpenSpec.ofChange fnExactDeepestPointSpec)

/-- ITS FALSE NEIGHBOUR: 'it returns false'. Refute it at one input. -/
def fnExactDeepestPointWrong : ChangeSpec := { name := "fnExactDeepestPoint", fn := fun _ => fun
  | [d] => { results := [.lit (.bool false)], args := [d] }
  | _ => none }
def FnExactDeepestPointWrongFalsely : Prop := fnExactDeepestPointRow.holds Try.pinned (OpenSpec.ofChange fnExactDeepestPointWrong)

/-- 'laws.FnExactStabbingPoints': WHATEVER THE INPUT: true; the input reads as it did. -/
def fnExactStabbingPointsSpec : ChangeSpec := { name := "fnExactStabbingPoints", fn := fun _ => fun
  | [d] => { results := [.lit (.bool true)], args := [d] }
  | _ => none }
def fnExactStabbingPointsRow : OpenClaim := { program := "ytfodbgogeclifaa", sum := "910a86e28f3371ebc9ac76476799c9cf3d07d2a1cc7b029792ae89e4241cc2e5", func := "loop.example/g02081/laws.FnExactStabbingPoints", spec := "fnExactStabbingPoints", unfollowed := true, recurses := true, apart := false }
def FnExactStabbingPointsSaid : Prop := fnExactStabbingPointsRow.holds Try.pinned (OpenSpec.ofChange fnExactStabbingPointsSpec)

/-- ITS FALSE NEIGHBOUR: 'it returns false'. Refute it at one input. -/
def fnExactStabbingPointsWrong : ChangeSpec := { name := "fnExactStabbingPoints", fn := fun _ => fun
  | [d] => { results := [.lit (.bool false)], args := [d] }
  | _ => none }
def FnExactStabbingPointsWrongFalsely : Prop := fnExactStabbingPointsRow.holds Try.pinned (OpenSpec.ofChange fnExactStabbingPointsWrong)

/-- 'laws.FnExactIsUmbrella': WHATEVER THE INPUT: true; the input reads as it did. -/
def fnExactIsUmbrellaSpec : ChangeSpec := { name := "fnExactIsUmbrella", fn := fun _ => fun
  | [d1, d2] => { results := [.lit (.bool true)], args := [d1, d2] }
  | _ => none }
def fnExactIsUmbrellaRow : OpenClaim := { program := "ytfodbgogeclifaa", sum := "910a86e28f3371ebc9ac76476799c9cf3d07d2a1cc7b029792ae89e4241cc2e5", func := "loop.example/g02081/laws.FnExactIsUmbrella", spec := "fnExactIsUmbrella", apart := false }
def FnExactIsUmbrellaSaid : Prop := fnExactIsUmbrellaRow.holds Try.pinned (OpenSpec.ofChange fnExactIsUmbrellaSpec)

/-- ITS FALSE NEIGHBOUR: 'it returns false'. Refute it at one input. -/
def fnExactIsUmbrellaWrong : ChangeSpec := { name := "fnExactIsUmbrella", fn := fun _ => fun
  | [d1, d2] => { results := [.lit (.bool false)], args := [d1, d2] }
  | _ => none }
def FnExactIsUmbrellaWrongFalsely : Prop := fnExactIsUmbrellaRow.holds Try.pinned (OpenSpec.ofChange fnExactIsUmbrellaWrong)

/-- 'laws.FnExactBandOf': WHATEVER THE INPUT: true; the input reads as it did. -/
def fnExactBandOfSpec : ChangeSpec := { name := "fnExactBandOf", fn := fun _ => fun
  | [d1, d2] => { results := [.lit (.bool true)], args := [d1, d2] }
  | _ => none }
def fnExactBandOfRow : OpenClaim := { program := "ytfodbgogeclifaa", sum := "910a86e28f3371ebc9ac76476799c9cf3d07d2a1cc7b029792ae89e4241cc2e5", func := "loop.example/g02081/laws.FnExactBandOf", spec := "fnExactBandOf", apart := false }
def FnExactBandOfSaid : Prop := fnExactBandOfRow.holds Try.pinned (OpenSpec.ofChange fnExactBandOfSpec)

/-- ITS FALSE NEIGHBOUR: 'it returns false'. Refute it at one input. -/
def fnExactBandOfWrong : ChangeSpec := { name := "fnExactBandOf", fn := fun _ => fun
  | [d1, d2] => { results := [.lit (.bool false)], args := [d1, d2] }
  | _ => none }
def FnExactBandOfWrongFalsely : Prop := fnExactBandOfRow.holds Try.pinned (OpenSpec.ofChange fnExactBandOfWrong)

/-- 'laws.FnExactColorByOrder': WHATEVER THE INPUT: true; the input reads as it did. -/
def fnExactColorByOrderSpec : ChangeSpec := { name := "fnExactColorByOrder", fn := fun _ => fun
  | [d1, d2] => { results := [.lit (.bool true)], args := [d1, d2] }
  | _ => none }
def fnExactColorByOrderRow : OpenClaim := { program := "ytfodbgogeclifaa", sum := "910a86e28f3371ebc9ac76476799c9cf3d07d2a1cc7b029792ae89e4241cc2e5", func := "loop.example/g02081/laws.FnExactColorByOrder", spec := "fnExactColorByOrder", apart := false }
def FnExactColorByOrderSaid : Prop := fnExactColorByOrderRow.holds Try.pinned (OpenSpec.ofChange fnExactColorByOrderSpec)

/-- ITS FALSE NEIGHBOUR: 'it returns false'. Refute it at one input. -/
def fnExactColorByOrderWrong : ChangeSpec := { name := "fnExactColorByOrder", fn := fun _ => fun
  | [d1, d2] => { results := [.lit (.bool false)], args := [d1, d2] }
  | _ => none }
def FnExactColorByOrderWrongFalsely : Prop := fnExactColorByOrderRow.holds Try.pinned (OpenSpec.ofChange fnExactColorByOrderWrong)

/-- 'laws.FnExactIsProper': WHATEVER THE INPUT: true; the input reads as it did. -/
def fnExactIsProperSpec : ChangeSpec := { name := "fnExactIsProper", fn := fun _ => fun
  | [d] => { results := [.lit (.bool true)], args := [d] }
  | _ => none }
def fnExactIsProperRow : OpenClaim := { program := "ytfodbgogeclifaa", sum := "910a86e28f3371ebc9ac76476799c9cf3d07d2a1cc7b029792ae89e4241cc2e5", func := "loop.example/g02081/laws.FnExactIsProper", spec := "fnExactIsProper", unfollowed := true, recurses := true, apart := false }
def FnExactIsProperSaid : Prop := fnExactIsProperRow.holds Try.pinned (OpenSpec.ofChange fnExactIsProperSpec)

/-- ITS FALSE NEIGHBOUR: 'it returns false'. Refute it at one input. -/
def fnExactIsProperWrong : ChangeSpec := { name := "fnExactIsProper", fn := fun _ => fun
  | [d] => { results := [.lit (.bool false)], args := [d] }
  | _ => none }
def FnExactIsProperWrongFalsely : Prop := fnExactIsProperRow.holds Try.pinned (OpenSpec.ofChange fnExactIsProperWrong)

/-- 'laws.FnExactGraphOfTree': WHATEVER THE INPUT: true; the input reads as it did. -/
def fnExactGraphOfTreeSpec : ChangeSpec := { name := "fnExactGraphOfTree", fn := fun _ => fun
  | [d1, d2] => { results := [.lit (.bool true)], args := [d1, d2] }
  | _ => none }
def fnExactGraphOfTreeRow : OpenClaim := { program := "ytfodbgogeclifaa", sum := "910a86e28f3371ebc9ac76476799c9cf3d07d2a1cc7b029792ae89e4241cc2e5", func := "loop.example/g02081/laws.FnExactGraphOfTree", spec := "fnExactGraphOfTree", apart := false }
def FnExactGraphOfTreeSaid : Prop := fnExactGraphOfTreeRow.holds Try.pinned (OpenSpec.ofChange fnExactGraphOfTreeSpec)

/-- ITS FALSE NEIGHBOUR: 'it returns false'. Refute it at one input. -/
def fnExactGraphOfTreeWrong : ChangeSpec := { name := "fnExactGraphOfTree", fn := fun _ => fun
  | [d1, d2] => { results := [.lit (.bool false)], args := [d1, d2] }
  | _ => none }
def FnExactGraphOfTreeWrongFalsely : Prop := fnExactGraphOfTreeRow.holds Try.pinned (OpenSpec.ofChange fnExactGraphOfTreeWrong)

/-- 'laws.FnExactUmbrellaOf': WHATEVER THE INPUT: true; the input reads as it did. -/
def fnExactUmbrellaOfSpec : ChangeSpec := { name := "fnExactUmbrellaOf", fn := fun _ => fun
  | [d] => { results := [.lit (.bool true)], args := [d] }
  | _ => none }
def fnExactUmbrellaOfRow : OpenClaim := { program := "ytfodbgogeclifaa", sum := "910a86e28f3371ebc9ac76476799c9cf3d07d2a1cc7b029792ae89e4241cc2e5", func := "loop.example/g02081/laws.FnExactUmbrellaOf", spec := "fnExactUmbrellaOf", unfollowed := true, recurses := true, apart := false }
def FnExactUmbrellaOfSaid : Prop := fnExactUmbrellaOfRow.holds Try.pinned (OpenSpec.ofChange fnExactUmbrellaOfSpec)

/-- ITS FALSE NEIGHBOUR: 'it returns false'. Refute it at one input. -/
def fnExactUmbrellaOfWrong : ChangeSpec := { name := "fnExactUmbrellaOf", fn := fun _ => fun
  | [d] => { results := [.lit (.bool false)], args := [d] }
  | _ => none }
def FnExactUmbrellaOfWrongFalsely : Prop := fnExactUmbrellaOfRow.holds Try.pinned (OpenSpec.ofChange fnExactUmbrellaOfWrong)

/-- 'laws.FnExactChordalColoring': WHATEVER THE INPUT: true; the input reads as it did. -/
def fnExactChordalColoringSpec : ChangeSpec := { name := "fnExactChordalColoring", fn := fun _ => fun
  | [d] => { results := [.lit (.bool true)], args := [d] }
  | _ => none }
def fnExactChordalColoringRow : OpenClaim := { program := "ytfodbgogeclifaa", sum := "910a86e28f3371ebc9ac76476799c9cf3d07d2a1cc7b029792ae89e4241cc2e5", func := "loop.example/g02081/laws.FnExactChordalColoring", spec := "fnExactChordalColoring", unfollowed := true, recurses := true, apart := false }
def FnExactChordalColoringSaid : Prop := fnExactChordalColoringRow.holds Try.pinned (OpenSpec.ofChange fnExactChordalColoringSpec)

/-- ITS FALSE NEIGHBOUR: 'it returns false'. Refute it at one input. -/
def fnExactChordalColoringWrong : ChangeSpec := { name := "fnExactChordalColoring", fn := fun _ => fun
  | [d] => { results := [.lit (.bool false)], args := [d] }
  | _ => none }
def FnExactChordalColoringWrongFalsely : Prop := fnExactChordalColoringRow.holds Try.pinned (OpenSpec.ofChange fnExactChordalColoringWrong)

/-- 'laws.FnExactUnitModelOf': WHATEVER THE INPUT: true; the input reads as it did. -/
def fnExactUnitModelOfSpec : ChangeSpec := { name := "fnExactUnitModelOf", fn := fun _ => fun
  | [d] => { results := [.lit (.bool true)], args := [d] }
  | _ => none }
def fnExactUnitModelOfRow : OpenClaim := { program := "ytfodbgogeclifaa", sum := "910a86e28f3371ebc9ac76476799c9cf3d07d2a1cc7b029792ae89e4241cc2e5", func := "loop.example/g02081/laws.FnExactUnitModelOf", spec := "fnExactUnitModelOf", unfollowed := true, recurses := true, apart := false }
def FnExactUnitModelOfSaid : Prop := fnExactUnitModelOfRow.holds Try.pinned (OpenSpec.ofChange fnExactUnitModelOfSpec)

/-- ITS FALSE NEIGHBOUR: 'it returns false'. Refute it at one input. -/
def fnExactUnitModelOfWrong : ChangeSpec := { name := "fnExactUnitModelOf", fn := fun _ => fun
  | [d] => { results := [.lit (.bool false)], args := [d] }
  | _ => none }
def FnExactUnitModelOfWrongFalsely : Prop := fnExactUnitModelOfRow.holds Try.pinned (OpenSpec.ofChange fnExactUnitModelOfWrong)

/-- 'laws.FnExactIsLexElimination': WHATEVER THE INPUT: true; the input reads as it did. -/
def fnExactIsLexEliminationSpec : ChangeSpec := { name := "fnExactIsLexElimination", fn := fun _ => fun
  | [d1, d2] => { results := [.lit (.bool true)], args := [d1, d2] }
  | _ => none }
def fnExactIsLexEliminationRow : OpenClaim := { program := "ytfodbgogeclifaa", sum := "910a86e28f3371ebc9ac76476799c9cf3d07d2a1cc7b029792ae89e4241cc2e5", func := "loop.example/g02081/laws.FnExactIsLexElimination", spec := "fnExactIsLexElimination", unfollowed := true, recurses := true, apart := false }
def FnExactIsLexEliminationSaid : Prop := fnExactIsLexEliminationRow.holds Try.pinned (OpenSpec.ofChange fnExactIsLexEliminationSpec)

/-- ITS FALSE NEIGHBOUR: 'it returns false'. Refute it at one input. -/
def fnExactIsLexEliminationWrong : ChangeSpec := { name := "fnExactIsLexElimination", fn := fun _ => fun
  | [d1, d2] => { results := [.lit (.bool false)], args := [d1, d2] }
  | _ => none }
def FnExactIsLexEliminationWrongFalsely : Prop := fnExactIsLexEliminationRow.holds Try.pinned (OpenSpec.ofChange fnExactIsLexEliminationWrong)

/- THE SECOND FORM. 'bulk': how many values and letters a reading holds, each counted each time it is reached (what is shared counts as often as it is met; a slice's spare places count too). A statement '..UptoSaid' is the law's where the arguments, and the package variables that the reading takes, are together of bulk at most 1048576: NARROWER than '..Said'. Prove '..Said' where nothing that the law and all that it calls make is longer than what came in: it says more and counts as full. Else prove '..UptoSaid'. A law counts once. -/
mutual
def uptoBulk {H : Type} : DataW H → Nat
  | .lit (.string bytes) => bytes.length + 1
  | .lit _ => 1
  | .nil => 1
  | .ptr d => uptoBulk d + 1
  | .slice elems spare => uptoBulkAll elems + uptoBulkAll spare + 1
  | .agg parts => uptoBulkAll parts + 1
  | .iface _ d => uptoBulk d + 1
  | .map entries => uptoBulkEntries entries + 1
  | .held _ => 1
def uptoBulkAll {H : Type} : List (DataW H) → Nat
  | [] => 0
  | d :: r => uptoBulk d + uptoBulkAll r
def uptoBulkEntries {H : Type} : List (Lit × DataW H) → Nat
  | [] => 0
  | x :: r => uptoBulkEntry x + uptoBulkEntries r
def uptoBulkEntry {H : Type} : Lit × DataW H → Nat
  | (.string bytes, d) => bytes.length + uptoBulk d + 1
  | (_, d) => uptoBulk d + 1
 end
def uptoSmall : (H : Type) → List (DataW H) → Bool := fun _ ds => decide (uptoBulkAll ds ≤ 1048576)
def OpenSpec.upto (s : _root_.Go.ChangeSpec) : _root_.Go.OpenSpec := { _root_.Go.OpenSpec.ofChange s with cond := some uptoSmall }

/-- 'laws.FnExactModelOfOrder', WHERE WHAT IT READS IS OF BULK AT MOST 1048576: true; the input reads as it did. -/
def fnExactModelOfOrderUptoRow : OpenClaim := { program := "ytfodbgogeclifaa", sum := "910a86e28f3371ebc9ac76476799c9cf3d07d2a1cc7b029792ae89e4241cc2e5", func := "loop.example/g02081/laws.FnExactModelOfOrder", spec := "fnExactModelOfOrder", unfollowed := true, recurses := true, apart := false, narrowed := true }
def FnExactModelOfOrderUptoSaid : Prop := fnExactModelOfOrderUptoRow.holds Try.pinned (OpenSpec.upto fnExactModelOfOrderSpec)

/-- 'laws.FnExactDeepestPoint', WHERE WHAT IT READS IS OF BULK AT MOST 1048576: true; the input reads as it did. -/
def fnExactDeepestPointUptoRow : OpenClaim := { program := "ytfodbgogeclifaa", sum := "910a86e28f3371ebc9ac76476799c9cf3d07d2a1cc7b029792ae89e4241cc2e5", func := "loop.example/g02081/laws.FnExactDeepestPoint", spec := "fnExactDeepestPoint", apart := false, narrowed := true }
def FnExactDeepestPointUptoSaid : Prop := fnExactDeepestPointUptoRow.holds Try.pinned (OpenSpec.upto fnExactDeepestPointSpec)

/-- 'laws.FnExactStabbingPoints', WHERE WHAT IT READS IS OF BULK AT MOST 1048576: true; the input reads as it did. -/
def fnExactStabbingPointsUptoRow : OpenClaim := { program := "ytfodbgogeclifaa", sum := "910a86e28f3371ebc9ac76476799c9cf3d07d2a1cc7b029792ae89e4241cc2e5", func := "loop.example/g02081/laws.FnExactStabbingPoints", spec := "fnExactStabbingPoints", unfollowed := true, recurses := true, apart := false, narrowed := true }
def FnExactStabbingPointsUptoSaid : Prop := fnExactStabbingPointsUptoRow.holds Try.pinned (OpenSpec.upto fnExactStabbingPointsSpec)

/-- 'laws.FnExactIsUmbrella', WHERE WHAT IT READS IS OF BULK AT MOST 1048576: true; the input reads as it did. -/
def fnExactIsUmbrellaUptoRow : OpenClaim := { program := "ytfodbgogeclifaa", sum := "910a86e28f3371ebc9ac76476799c9cf3d07d2a1cc7b029792ae89e4241cc2e5", func := "loop.example/g02081/laws.FnExactIsUmbrella", spec := "fnExactIsUmbrella", apart := false, narrowed := true }
def FnExactIsUmbrellaUptoSaid : Prop := fnExactIsUmbrellaUptoRow.holds Try.pinned (OpenSpec.upto fnExactIsUmbrellaSpec)

/-- 'laws.FnExactBandOf', WHERE WHAT IT READS IS OF BULK AT MOST 1048576: true; the input reads as it did. -/
def fnExactBandOfUptoRow : OpenClaim := { program := "ytfodbgogeclifaa", sum := "910a86e28f3371ebc9ac76476799c9cf3d07d2a1cc7b029792ae89e4241cc2e5", func := "loop.example/g02081/laws.FnExactBandOf", spec := "fnExactBandOf", apart := false, narrowed := true }
def FnExactBandOfUptoSaid : Prop := fnExactBandOfUptoRow.holds Try.pinned (OpenSpec.upto fnExactBandOfSpec)

/-- 'laws.FnExactColorByOrder', WHERE WHAT IT READS IS OF BULK AT MOST 1048576: true; the input reads as it did. -/
def fnExactColorByOrderUptoRow : OpenClaim := { program := "ytfodbgogeclifaa", sum := "910a86e28f3371ebc9ac76476799c9cf3d07d2a1cc7b029792ae89e4241cc2e5", func := "loop.example/g02081/laws.FnExactColorByOrder", spec := "fnExactColorByOrder", apart := false, narrowed := true }
def FnExactColorByOrderUptoSaid : Prop := fnExactColorByOrderUptoRow.holds Try.pinned (OpenSpec.upto fnExactColorByOrderSpec)

/-- 'laws.FnExactIsProper', WHERE WHAT IT READS IS OF BULK AT MOST 1048576: true; the input reads as it did. -/
def fnExactIsProperUptoRow : OpenClaim := { program := "ytfodbgogeclifaa", sum := "910a86e28f3371ebc9ac76476799c9cf3d07d2a1cc7b029792ae89e4241cc2e5", func := "loop.example/g02081/laws.FnExactIsProper", spec := "fnExactIsProper", unfollowed := true, recurses := true, apart := false, narrowed := true }
def FnExactIsProperUptoSaid : Prop := fnExactIsProperUptoRow.holds Try.pinned (OpenSpec.upto fnExactIsProperSpec)

/-- 'laws.FnExactGraphOfTree', WHERE WHAT IT READS IS OF BULK AT MOST 1048576: true; the input reads as it did. -/
def fnExactGraphOfTreeUptoRow : OpenClaim := { program := "ytfodbgogeclifaa", sum := "910a86e28f3371ebc9ac76476799c9cf3d07d2a1cc7b029792ae89e4241cc2e5", func := "loop.example/g02081/laws.FnExactGraphOfTree", spec := "fnExactGraphOfTree", apart := false, narrowed := true }
def FnExactGraphOfTreeUptoSaid : Prop := fnExactGraphOfTreeUptoRow.holds Try.pinned (OpenSpec.upto fnExactGraphOfTreeSpec)

/-- 'laws.FnExactUmbrellaOf', WHERE WHAT IT READS IS OF BULK AT MOST 1048576: true; the input reads as it did. -/
def fnExactUmbrellaOfUptoRow : OpenClaim := { program := "ytfodbgogeclifaa", sum := "910a86e28f3371ebc9ac76476799c9cf3d07d2a1cc7b029792ae89e4241cc2e5", func := "loop.example/g02081/laws.FnExactUmbrellaOf", spec := "fnExactUmbrellaOf", unfollowed := true, recurses := true, apart := false, narrowed := true }
def FnExactUmbrellaOfUptoSaid : Prop := fnExactUmbrellaOfUptoRow.holds Try.pinned (OpenSpec.upto fnExactUmbrellaOfSpec)

/-- 'laws.FnExactChordalColoring', WHERE WHAT IT READS IS OF BULK AT MOST 1048576: true; the input reads as it did. -/
def fnExactChordalColoringUptoRow : OpenClaim := { program := "ytfodbgogeclifaa", sum := "910a86e28f3371ebc9ac76476799c9cf3d07d2a1cc7b029792ae89e4241cc2e5", func := "loop.example/g02081/laws.FnExactChordalColoring", spec := "fnExactChordalColoring", unfollowed := true, recurses := true, apart := false, narrowed := true }
def FnExactChordalColoringUptoSaid : Prop := fnExactChordalColoringUptoRow.holds Try.pinned (OpenSpec.upto fnExactChordalColoringSpec)

/-- 'laws.FnExactUnitModelOf', WHERE WHAT IT READS IS OF BULK AT MOST 1048576: true; the input reads as it did. -/
def fnExactUnitModelOfUptoRow : OpenClaim := { program := "ytfodbgogeclifaa", sum := "910a86e28f3371ebc9ac76476799c9cf3d07d2a1cc7b029792ae89e4241cc2e5", func := "loop.example/g02081/laws.FnExactUnitModelOf", spec := "fnExactUnitModelOf", unfollowed := true, recurses := true, apart := false, narrowed := true }
def FnExactUnitModelOfUptoSaid : Prop := fnExactUnitModelOfUptoRow.holds Try.pinned (OpenSpec.upto fnExactUnitModelOfSpec)

/-- 'laws.FnExactIsLexElimination', WHERE WHAT IT READS IS OF BULK AT MOST 1048576: true; the input reads as it did. -/
def fnExactIsLexEliminationUptoRow : OpenClaim := { program := "ytfodbgogeclifaa", sum := "910a86e28f3371ebc9ac76476799c9cf3d07d2a1cc7b029792ae89e4241cc2e5", func := "loop.example/g02081/laws.FnExactIsLexElimination", spec := "fnExactIsLexElimination", unfollowed := true, recurses := true, apart := false, narrowed := true }
def FnExactIsLexEliminationUptoSaid : Prop := fnExactIsLexEliminationUptoRow.holds Try.pinned (OpenSpec.upto fnExactIsLexEliminationSpec)

end Rows
end Go.Proofs.Ytfodbgogeclifaa
