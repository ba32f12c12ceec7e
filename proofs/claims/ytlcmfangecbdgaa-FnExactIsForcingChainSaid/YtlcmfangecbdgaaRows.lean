/-
  No cell of these rows narrows 'for every input' (looked for: loops, veiled, ifaces, maps, wideKeys, modest, calm, conditions, laid).
  DERIVED. THE GIVEN ROWS OF THIS SEAT. 11 by the template 'for every input the law returns true; each argument reads behind the call as it read before'; 0 by the template 'total and deterministic' (their statements: YtlcmfangecbdgaaTotals.lean).
  GIVEN WITH THE SEED: the statements are not yours to turn. If you find one false, say at which input.
  Laid BY PROGRAM, IN A SANDBOX (cutbox-rows.mjs): the forced cells as the released guide's own fill.sh prints them over the translation f44ce5d4f667255c… (all of the seat's roots in one cut). By AI agents, Wed Nov 11 2026. No macro, syntax, notation, axiom, sorry.
-/
import Derived.Test.YtlcmfangecbdgaaChecked
import GoSem.Claim
import GoSem.ClaimJoined
import GoSem.ClaimMapViews
import Derived.JoinedTies
import Derived.KernelRfl
namespace Go.Proofs.Ytlcmfangecbdgaa
/- THE CELL 'sum', in the pinned program and in every row, IS THE sha256 OF THE DUMP (.gsa) THAT YtlcmfangecbdgaaProg.lean LOADS. Nothing in Lean hashes anything: it is a label: what it is worth is what the hold of that sum in a sandbox is worth. -/
noncomputable def Try.pinned : Pinned := { name := "ytlcmfangecbdgaa", sum := "f44ce5d4f667255ce1ed6a2e02bbdf136a5cde760521cba731bad808095f7e42", checked := Try.checked }
namespace Rows
def none {H : Type} : Left H := { results := [], args := [] }

/-- 'laws.FnExactIsTriple': WHATEVER THE INPUT: true; the input reads as it did. -/
def fnExactIsTripleSpec : ChangeSpec := { name := "fnExactIsTriple", fn := fun _ => fun
  | [d1, d2, d3, d4] => { results := [.lit (.bool true)], args := [d1, d2, d3, d4] }
  | _ => none }
def fnExactIsTripleRow : OpenClaim := { program := "ytlcmfangecbdgaa", sum := "f44ce5d4f667255ce1ed6a2e02bbdf136a5cde760521cba731bad808095f7e42", func := "loop.example/g02081/laws.FnExactIsTriple", spec := "fnExactIsTriple", apart := false }
def FnExactIsTripleSaid : Prop := fnExactIsTripleRow.holds Try.pinned (OpenSpec.ofChange fnExactIsTripleSpec)

/-- ITS FALSE NEIGHBOUR: 'it returns false'. Refute it at one input. -/
def fnExactIsTripleWrong : ChangeSpec := { name := "fnExactIsTriple", fn := fun _ => fun
  | [d1, d2, d3, d4] => { results := [.lit (.bool false)], args := [d1, d2, d3, d4] }
  | _ => none }
def FnExactIsTripleWrongFalsely : Prop := fnExactIsTripleRow.holds Try.pinned (OpenSpec.ofChange fnExactIsTripleWrong)

/-- 'laws.FnExactAvoidingPath': WHATEVER THE INPUT: true; the input reads as it did. -/
def fnExactAvoidingPathSpec : ChangeSpec := { name := "fnExactAvoidingPath", fn := fun _ => fun
  | [d1, d2, d3, d4] => { results := [.lit (.bool true)], args := [d1, d2, d3, d4] }
  | _ => none }
def fnExactAvoidingPathRow : OpenClaim := { program := "ytlcmfangecbdgaa", sum := "f44ce5d4f667255ce1ed6a2e02bbdf136a5cde760521cba731bad808095f7e42", func := "loop.example/g02081/laws.FnExactAvoidingPath", spec := "fnExactAvoidingPath", apart := false }
def FnExactAvoidingPathSaid : Prop := fnExactAvoidingPathRow.holds Try.pinned (OpenSpec.ofChange fnExactAvoidingPathSpec)

/-- ITS FALSE NEIGHBOUR: 'it returns false'. Refute it at one input. -/
def fnExactAvoidingPathWrong : ChangeSpec := { name := "fnExactAvoidingPath", fn := fun _ => fun
  | [d1, d2, d3, d4] => { results := [.lit (.bool false)], args := [d1, d2, d3, d4] }
  | _ => none }
def FnExactAvoidingPathWrongFalsely : Prop := fnExactAvoidingPathRow.holds Try.pinned (OpenSpec.ofChange fnExactAvoidingPathWrong)

/-- 'laws.FnExactIsForcingChain': WHATEVER THE INPUT: true; the input reads as it did. -/
def fnExactIsForcingChainSpec : ChangeSpec := { name := "fnExactIsForcingChain", fn := fun _ => fun
  | [d1, d2] => { results := [.lit (.bool true)], args := [d1, d2] }
  | _ => none }
def fnExactIsForcingChainRow : OpenClaim := { program := "ytlcmfangecbdgaa", sum := "f44ce5d4f667255ce1ed6a2e02bbdf136a5cde760521cba731bad808095f7e42", func := "loop.example/g02081/laws.FnExactIsForcingChain", spec := "fnExactIsForcingChain", unfollowed := true, recurses := true, apart := false }
def FnExactIsForcingChainSaid : Prop := fnExactIsForcingChainRow.holds Try.pinned (OpenSpec.ofChange fnExactIsForcingChainSpec)

/-- ITS FALSE NEIGHBOUR: 'it returns false'. Refute it at one input. -/
def fnExactIsForcingChainWrong : ChangeSpec := { name := "fnExactIsForcingChain", fn := fun _ => fun
  | [d1, d2] => { results := [.lit (.bool false)], args := [d1, d2] }
  | _ => none }
def FnExactIsForcingChainWrongFalsely : Prop := fnExactIsForcingChainRow.holds Try.pinned (OpenSpec.ofChange fnExactIsForcingChainWrong)

/-- 'laws.FnExactForcedArcs': WHATEVER THE INPUT: true; the input reads as it did. -/
def fnExactForcedArcsSpec : ChangeSpec := { name := "fnExactForcedArcs", fn := fun _ => fun
  | [d1, d2, d3] => { results := [.lit (.bool true)], args := [d1, d2, d3] }
  | _ => none }
def fnExactForcedArcsRow : OpenClaim := { program := "ytlcmfangecbdgaa", sum := "f44ce5d4f667255ce1ed6a2e02bbdf136a5cde760521cba731bad808095f7e42", func := "loop.example/g02081/laws.FnExactForcedArcs", spec := "fnExactForcedArcs", unfollowed := true, recurses := true, apart := false }
def FnExactForcedArcsSaid : Prop := fnExactForcedArcsRow.holds Try.pinned (OpenSpec.ofChange fnExactForcedArcsSpec)

/-- ITS FALSE NEIGHBOUR: 'it returns false'. Refute it at one input. -/
def fnExactForcedArcsWrong : ChangeSpec := { name := "fnExactForcedArcs", fn := fun _ => fun
  | [d1, d2, d3] => { results := [.lit (.bool false)], args := [d1, d2, d3] }
  | _ => none }
def FnExactForcedArcsWrongFalsely : Prop := fnExactForcedArcsRow.holds Try.pinned (OpenSpec.ofChange fnExactForcedArcsWrong)

/-- 'laws.FnExactFindTriple': WHATEVER THE INPUT: true; the input reads as it did. -/
def fnExactFindTripleSpec : ChangeSpec := { name := "fnExactFindTriple", fn := fun _ => fun
  | [d] => { results := [.lit (.bool true)], args := [d] }
  | _ => none }
def fnExactFindTripleRow : OpenClaim := { program := "ytlcmfangecbdgaa", sum := "f44ce5d4f667255ce1ed6a2e02bbdf136a5cde760521cba731bad808095f7e42", func := "loop.example/g02081/laws.FnExactFindTriple", spec := "fnExactFindTriple", apart := false }
def FnExactFindTripleSaid : Prop := fnExactFindTripleRow.holds Try.pinned (OpenSpec.ofChange fnExactFindTripleSpec)

/-- ITS FALSE NEIGHBOUR: 'it returns false'. Refute it at one input. -/
def fnExactFindTripleWrong : ChangeSpec := { name := "fnExactFindTriple", fn := fun _ => fun
  | [d] => { results := [.lit (.bool false)], args := [d] }
  | _ => none }
def FnExactFindTripleWrongFalsely : Prop := fnExactFindTripleRow.holds Try.pinned (OpenSpec.ofChange fnExactFindTripleWrong)

/-- 'laws.FnExactTriplePaths': WHATEVER THE INPUT: true; the input reads as it did. -/
def fnExactTriplePathsSpec : ChangeSpec := { name := "fnExactTriplePaths", fn := fun _ => fun
  | [d1, d2, d3, d4] => { results := [.lit (.bool true)], args := [d1, d2, d3, d4] }
  | _ => none }
def fnExactTriplePathsRow : OpenClaim := { program := "ytlcmfangecbdgaa", sum := "f44ce5d4f667255ce1ed6a2e02bbdf136a5cde760521cba731bad808095f7e42", func := "loop.example/g02081/laws.FnExactTriplePaths", spec := "fnExactTriplePaths", apart := false }
def FnExactTriplePathsSaid : Prop := fnExactTriplePathsRow.holds Try.pinned (OpenSpec.ofChange fnExactTriplePathsSpec)

/-- ITS FALSE NEIGHBOUR: 'it returns false'. Refute it at one input. -/
def fnExactTriplePathsWrong : ChangeSpec := { name := "fnExactTriplePaths", fn := fun _ => fun
  | [d1, d2, d3, d4] => { results := [.lit (.bool false)], args := [d1, d2, d3, d4] }
  | _ => none }
def FnExactTriplePathsWrongFalsely : Prop := fnExactTriplePathsRow.holds Try.pinned (OpenSpec.ofChange fnExactTriplePathsWrong)

/-- 'laws.FnExactIsIntervalObstacle': WHATEVER THE INPUT: true; the input reads as it did. -/
def fnExactIsIntervalObstacleSpec : ChangeSpec := { name := "fnExactIsIntervalObstacle", fn := fun _ => fun
  | [d1, d2] => { results := [.lit (.bool true)], args := [d1, d2] }
  | _ => none }
def fnExactIsIntervalObstacleRow : OpenClaim := { program := "ytlcmfangecbdgaa", sum := "f44ce5d4f667255ce1ed6a2e02bbdf136a5cde760521cba731bad808095f7e42", func := "loop.example/g02081/laws.FnExactIsIntervalObstacle", spec := "fnExactIsIntervalObstacle", unfollowed := true, recurses := true, apart := false }
def FnExactIsIntervalObstacleSaid : Prop := fnExactIsIntervalObstacleRow.holds Try.pinned (OpenSpec.ofChange fnExactIsIntervalObstacleSpec)

/-- ITS FALSE NEIGHBOUR: 'it returns false'. Refute it at one input. -/
def fnExactIsIntervalObstacleWrong : ChangeSpec := { name := "fnExactIsIntervalObstacle", fn := fun _ => fun
  | [d1, d2] => { results := [.lit (.bool false)], args := [d1, d2] }
  | _ => none }
def FnExactIsIntervalObstacleWrongFalsely : Prop := fnExactIsIntervalObstacleRow.holds Try.pinned (OpenSpec.ofChange fnExactIsIntervalObstacleWrong)

/-- 'laws.FnExactIsComparability': WHATEVER THE INPUT: true; the input reads as it did. -/
def fnExactIsComparabilitySpec : ChangeSpec := { name := "fnExactIsComparability", fn := fun _ => fun
  | [d] => { results := [.lit (.bool true)], args := [d] }
  | _ => none }
def fnExactIsComparabilityRow : OpenClaim := { program := "ytlcmfangecbdgaa", sum := "f44ce5d4f667255ce1ed6a2e02bbdf136a5cde760521cba731bad808095f7e42", func := "loop.example/g02081/laws.FnExactIsComparability", spec := "fnExactIsComparability", unfollowed := true, recurses := true, apart := false }
def FnExactIsComparabilitySaid : Prop := fnExactIsComparabilityRow.holds Try.pinned (OpenSpec.ofChange fnExactIsComparabilitySpec)

/-- ITS FALSE NEIGHBOUR: 'it returns false'. Refute it at one input. -/
def fnExactIsComparabilityWrong : ChangeSpec := { name := "fnExactIsComparability", fn := fun _ => fun
  | [d] => { results := [.lit (.bool false)], args := [d] }
  | _ => none }
def FnExactIsComparabilityWrongFalsely : Prop := fnExactIsComparabilityRow.holds Try.pinned (OpenSpec.ofChange fnExactIsComparabilityWrong)

/-- 'laws.FnExactIsProperObstacle': WHATEVER THE INPUT: true; the input reads as it did. -/
def fnExactIsProperObstacleSpec : ChangeSpec := { name := "fnExactIsProperObstacle", fn := fun _ => fun
  | [d1, d2] => { results := [.lit (.bool true)], args := [d1, d2] }
  | _ => none }
def fnExactIsProperObstacleRow : OpenClaim := { program := "ytlcmfangecbdgaa", sum := "f44ce5d4f667255ce1ed6a2e02bbdf136a5cde760521cba731bad808095f7e42", func := "loop.example/g02081/laws.FnExactIsProperObstacle", spec := "fnExactIsProperObstacle", unfollowed := true, recurses := true, apart := false }
def FnExactIsProperObstacleSaid : Prop := fnExactIsProperObstacleRow.holds Try.pinned (OpenSpec.ofChange fnExactIsProperObstacleSpec)

/-- ITS FALSE NEIGHBOUR: 'it returns false'. Refute it at one input. -/
def fnExactIsProperObstacleWrong : ChangeSpec := { name := "fnExactIsProperObstacle", fn := fun _ => fun
  | [d1, d2] => { results := [.lit (.bool false)], args := [d1, d2] }
  | _ => none }
def FnExactIsProperObstacleWrongFalsely : Prop := fnExactIsProperObstacleRow.holds Try.pinned (OpenSpec.ofChange fnExactIsProperObstacleWrong)

/-- 'laws.FnExactIntervalObstacle': WHATEVER THE INPUT: true; the input reads as it did. -/
def fnExactIntervalObstacleSpec : ChangeSpec := { name := "fnExactIntervalObstacle", fn := fun _ => fun
  | [d] => { results := [.lit (.bool true)], args := [d] }
  | _ => none }
def fnExactIntervalObstacleRow : OpenClaim := { program := "ytlcmfangecbdgaa", sum := "f44ce5d4f667255ce1ed6a2e02bbdf136a5cde760521cba731bad808095f7e42", func := "loop.example/g02081/laws.FnExactIntervalObstacle", spec := "fnExactIntervalObstacle", unfollowed := true, recurses := true, apart := false }
def FnExactIntervalObstacleSaid : Prop := fnExactIntervalObstacleRow.holds Try.pinned (OpenSpec.ofChange fnExactIntervalObstacleSpec)

/-- ITS FALSE NEIGHBOUR: 'it returns false'. Refute it at one input. -/
def fnExactIntervalObstacleWrong : ChangeSpec := { name := "fnExactIntervalObstacle", fn := fun _ => fun
  | [d] => { results := [.lit (.bool false)], args := [d] }
  | _ => none }
def FnExactIntervalObstacleWrongFalsely : Prop := fnExactIntervalObstacleRow.holds Try.pinned (OpenSpec.ofChange fnExactIntervalObstacleWrong)

/-- 'laws.FnExactProperObstacle': WHATEVER THE INPUT: true; the input reads as it did. -/
def fnExactProperObstacleSpec : ChangeSpec := { name := "fnExactProperObstacle", fn := fun _ => fun
  | [d] => { results := [.lit (.bool true)], args := [d] }
  | _ => none }
def fnExactProperObstacleRow : OpenClaim := { program := "ytlcmfangecbdgaa", sum := "f44ce5d4f667255ce1ed6a2e02bbdf136a5cde760521cba731bad808095f7e42", func := "loop.example/g02081/laws.FnExactProperObstacle", spec := "fnExactProperObstacle", unfollowed := true, recurses := true, apart := false }
def FnExactProperObstacleSaid : Prop := fnExactProperObstacleRow.holds Try.pinned (OpenSpec.ofChange fnExactProperObstacleSpec)

/-- ITS FALSE NEIGHBOUR: 'it returns false'. Refute it at one input. -/
def fnExactProperObstacleWrong : ChangeSpec := { name := "fnExactProperObstacle", fn := fun _ => fun
  | [d] => { results := [.lit (.bool false)], args := [d] }
  | _ => none }
def FnExactProperObstacleWrongFalsely : Prop := fnExactProperObstacleRow.holds Try.pinned (OpenSpec.ofChange fnExactProperObstacleWrong)

/- THE SECOND FORM. 'bulk': how many values and letters a reading holds, each counted each time it is reached (what is shared counts as often as it is met; a slice's spare places count too). A statement '..UptoSaid' is the law's where the arguments, and the package variables that the reading takes, are together of bulk at most 1048576: NARROWER than '..Said'. Prove '..Said' where nothing that the law and all that it calls make is longer than what came in: it says more and counts as full. Else prove '..UptoSaid'. A law counts once. -/
mutual
def uptoBulk {H : Type} : DataW H → Nat
  | .lit (.string bytes) => bytes.length + 1
  | .lit _ => 1
  | .nil => 1
  | .ptr d => uptoBulk d + 1
  | .slice elems spare => uptoBulkAll elems + uptoBulkAll spare + 1
  | .agg parts => uptoBulkAll parts + 1
  | .iface _ d => uptoBulk d + 1
  | .map entries => uptoBulkEntries entries + 1
  | .held _ => 1
def uptoBulkAll {H : Type} : List (DataW H) → Nat
  | [] => 0
  | d :: r => uptoBulk d + uptoBulkAll r
def uptoBulkEntries {H : Type} : List (Lit × DataW H) → Nat
  | [] => 0
  | x :: r => uptoBulkEntry x + uptoBulkEntries r
def uptoBulkEntry {H : Type} : Lit × DataW H → Nat
  | (.string bytes, d) => bytes.length + uptoBulk d + 1
  | (_, d) => uptoBulk d + 1
 end
def uptoSmall : (H : Type) → List (DataW H) → Bool := fun _ ds => decide (uptoBulkAll ds ≤ 1048576)
def OpenSpec.upto (s : _root_.Go.ChangeSpec) : _root_.Go.OpenSpec := { _root_.Go.OpenSpec.ofChange s with cond := some uptoSmall }

/-- 'laws.FnExactIsTriple', WHERE WHAT IT READS IS OF BULK AT MOST 1048576: true; the input reads as it did. -/
def fnExactIsTripleUptoRow : OpenClaim := { program := "ytlcmfangecbdgaa", sum := "f44ce5d4f667255ce1ed6a2e02bbdf136a5cde760521cba731bad808095f7e42", func := "loop.example/g02081/laws.FnExactIsTriple", spec := "fnExactIsTriple", apart := false, narrowed := true }
def FnExactIsTripleUptoSaid : Prop := fnExactIsTripleUptoRow.holds Try.pinned (OpenSpec.upto fnExactIsTripleSpec)

/-- 'laws.FnExactAvoidingPath', WHERE WHAT IT READS IS OF BULK AT MOST 1048576: true; the input reads as it did. -/
def fnExactAvoidingPathUptoRow : OpenClaim := { program := "ytlcmfangecbdgaa", sum := "f44ce5d4f667255ce1ed6a2e02bbdf136a5cde760521cba731bad808095f7e42", func := "loop.example/g02081/laws.FnExactAvoidingPath", spec := "fnExactAvoidingPath", apart := false, narrowed := true }
def FnExactAvoidingPathUptoSaid : Prop := fnExactAvoidingPathUptoRow.holds Try.pinned (OpenSpec.upto fnExactAvoidingPathSpec)

/-- 'laws.FnExactIsForcingChain', WHERE WHAT IT READS IS OF BULK AT MOST 1048576: true; the input reads as it did. -/
def fnExactIsForcingChainUptoRow : OpenClaim := { program := "ytlcmfangecbdgaa", sum := "f44ce5d4f667255ce1ed6a2e02bbdf136a5cde760521cba731bad808095f7e42", func := "loop.example/g02081/laws.FnExactIsForcingChain", spec := "fnExactIsForcingChain", unfollowed := true, recurses := true, apart := false, narrowed := true }
def FnExactIsForcingChainUptoSaid : Prop := fnExactIsForcingChainUptoRow.holds Try.pinned (OpenSpec.upto fnExactIsForcingChainSpec)

/-- 'laws.FnExactForcedArcs', WHERE WHAT IT READS IS OF BULK AT MOST 1048576: true; the input reads as it did. -/
def fnExactForcedArcsUptoRow : OpenClaim := { program := "ytlcmfangecbdgaa", sum := "f44ce5d4f667255ce1ed6a2e02bbdf136a5cde760521cba731bad808095f7e42", func := "loop.example/g02081/laws.FnExactForcedArcs", spec := "fnExactForcedArcs", unfollowed := true, recurses := true, apart := false, narrowed := true }
def FnExactForcedArcsUptoSaid : Prop := fnExactForcedArcsUptoRow.holds Try.pinned (OpenSpec.upto fnExactForcedArcsSpec)

/-- 'laws.FnExactFindTriple', WHERE WHAT IT READS IS OF BULK AT MOST 1048576: true; the input reads as it did. -/
def fnExactFindTripleUptoRow : OpenClaim := { program := "ytlcmfangecbdgaa", sum := "f44ce5d4f667255ce1ed6a2e02bbdf136a5cde760521cba731bad808095f7e42", func := "loop.example/g02081/laws.FnExactFindTriple", spec := "fnExactFindTriple", apart := false, narrowed := true }
def FnExactFindTripleUptoSaid : Prop := fnExactFindTripleUptoRow.holds Try.pinned (OpenSpec.upto fnExactFindTripleSpec)

/-- 'laws.FnExactTriplePaths', WHERE WHAT IT READS IS OF BULK AT MOST 1048576: true; the input reads as it did. -/
def fnExactTriplePathsUptoRow : OpenClaim := { program := "ytlcmfangecbdgaa", sum := "f44ce5d4f667255ce1ed6a2e02bbdf136a5cde760521cba731bad808095f7e42", func := "loop.example/g02081/laws.FnExactTriplePaths", spec := "fnExactTriplePaths", apart := false, narrowed := true }
def FnExactTriplePathsUptoSaid : Prop := fnExactTriplePathsUptoRow.holds Try.pinned (OpenSpec.upto fnExactTriplePathsSpec)

/-- 'laws.FnExactIsIntervalObstacle', WHERE WHAT IT READS IS OF BULK AT MOST 1048576: true; the input reads as it did. -/
def fnExactIsIntervalObstacleUptoRow : OpenClaim := { program := "ytlcmfangecbdgaa", sum := "f44ce5d4f667255ce1ed6a2e02bbdf136a5cde760521cba731bad808095f7e42", func := "loop.example/g02081/laws.FnExactIsIntervalObstacle", spec := "fnExactIsIntervalObstacle", unfollowed := true, recurses := true, apart := false, narrowed := true }
def FnExactIsIntervalObstacleUptoSaid : Prop := fnExactIsIntervalObstacleUptoRow.holds Try.pinned (OpenSpec.upto fnExactIsIntervalObstacleSpec)

/-- 'laws.FnExactIsComparability', WHERE WHAT IT READS IS OF BULK AT MOST 1048576: true; the input reads as it did. -/
def fnExactIsComparabilityUptoRow : OpenClaim := { program := "ytlcmfangecbdgaa", sum := "f44ce5d4f667255ce1ed6a2e02bbdf136a5cde760521cba731bad808095f7e42", func := "loop.example/g02081/laws.FnExactIsComparability", spec := "fnExactIsComparability", unfollowed := true, recurses := true, apart := false, narrowed := true }
def FnExactIsComparabilityUptoSaid : Prop := fnExactIsComparabilityUptoRow.holds Try.pinned (OpenSpec.upto fnExactIsComparabilitySpec)

/-- 'laws.FnExactIsProperObstacle', WHERE WHAT IT READS IS OF BULK AT MOST 1048576: true; the input reads as it did. -/
def fnExactIsProperObstacleUptoRow : OpenClaim := { program := "ytlcmfangecbdgaa", sum := "f44ce5d4f667255ce1ed6a2e02bbdf136a5cde760521cba731bad808095f7e42", func := "loop.example/g02081/laws.FnExactIsProperObstacle", spec := "fnExactIsProperObstacle", unfollowed := true, recurses := true, apart := false, narrowed := true }
def FnExactIsProperObstacleUptoSaid : Prop := fnExactIsProperObstacleUptoRow.holds Try.pinned (OpenSpec.upto fnExactIsProperObstacleSpec)

/-- 'laws.FnExactIntervalObstacle', WHERE WHAT IT READS IS OF BULK AT MOST 1048576: true; the input reads as it did. -/
def fnExactIntervalObstacleUptoRow : OpenClaim := { program := "ytlcmfangecbdgaa", sum := "f44ce5d4f667255ce1ed6a2e02bbdf136a5cde760521cba731bad808095f7e42", func := "loop.example/g02081/laws.FnExactIntervalObstacle", spec := "fnExactIntervalObstacle", unfollowed := true, recurses := true, apart := false, narrowed := true }
def FnExactIntervalObstacleUptoSaid : Prop := fnExactIntervalObstacleUptoRow.holds Try.pinned (OpenSpec.upto fnExactIntervalObstacleSpec)

/-- 'laws.FnExactProperObstacle', WHERE WHAT IT READS IS OF BULK AT MOST 1048576: true; the input reads as it did. -/
def fnExactProperObstacleUptoRow : OpenClaim := { program := "ytlcmfangecbdgaa", sum := "f44ce5d4f667255ce1ed6a2e02bbdf136a5cde760521cba731bad808095f7e42", func := "loop.example/g02081/laws.FnExactProperObstacle", spec := "fnExactProperObstacle", unfollowed := true, recurses := true, apart := false, narrowed := true }
def FnExactProperObstacleUptoSaid : Prop := fnExactProperObstacleUptoRow.holds Try.pinned (OpenSpec.upto fnExactProperObstacleSpec)

end Rows
end Go.Proofs.Ytlcmfangecbdgaa
