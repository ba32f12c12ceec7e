/-
  No cell of these rows narrows 'for every input' (looked for: loops, veiled, ifaces, maps, wideKeys, modest, calm, conditions, laid).
  DERIVED. THE GIVEN ROWS OF THIS SEAT. 12 by the template 'for every input the law returns true; each argument reads behind the call as it read before'; 0 by the template 'total and deterministic' (their statements: YtcaoelihmkbedaaTotals.lean).
  GIVEN WITH THE SEED: the statements are not yours to turn. If you find one false, say at which input.
  Laid BY PROGRAM, IN A SANDBOX (cutbox-rows.mjs): the forced cells as the released guide's own fill.sh prints them over the translation aa7d82be2d857584… (all of the seat's roots in one cut). By AI agents, Wed Nov 11 2026. No macro, syntax, notation, axiom, sorry.
-/
import Derived.Test.YtcaoelihmkbedaaChecked
import GoSem.Claim
import GoSem.ClaimJoined
import GoSem.ClaimMapViews
import Derived.JoinedTies
import Derived.KernelRfl
namespace Go.Proofs.Ytcaoelihmkbedaa
/- THE CELL 'sum', in the pinned program and in every row, IS THE sha256 OF THE DUMP (.gsa) THAT YtcaoelihmkbedaaProg.lean LOADS. Nothing in Lean hashes anything: it is a label: what it is worth is what the hold of that sum in a sandbox is worth. -/
noncomputable def Try.pinned : Pinned := { name := "ytcaoelihmkbedaa", sum := "aa7d82be2d857584c82ec8982150d466fccd9178129ddaf3a4fe80753f0aafda", checked := Try.checked }
namespace Rows
def none {H : Type} : Left H := { results := [], args := [] }

/-- 'laws.FnExactIsColoring': WHATEVER THE INPUT: true; the input reads as it did. -/
def fnExactIsColoringSpec : ChangeSpec := { name := "fnExactIsColoring", fn := fun _ => fun
  | [d1, d2] => { results := [.lit (.bool true)], args := [d1, d2] }
  | _ => none }
def fnExactIsColoringRow : OpenClaim := { program := "ytcaoelihmkbedaa", sum := "aa7d82be2d857584c82ec8982150d466fccd9178129ddaf3a4fe80753f0aafda", func := "loop.example/g02081/laws.FnExactIsColoring", spec := "fnExactIsColoring", apart := false }
def FnExactIsColoringSaid : Prop := fnExactIsColoringRow.holds Try.pinned (OpenSpec.ofChange fnExactIsColoringSpec)

/-- ITS FALSE NEIGHBOUR: 'it returns false'. Refute it at one input. -/
def fnExactIsColoringWrong : ChangeSpec := { name := "fnExactIsColoring", fn := fun _ => fun
  | [d1, d2] => { results := [.lit (.bool false)], args := [d1, d2] }
  | _ => none }
def FnExactIsColoringWrongFalsely : Prop := fnExactIsColoringRow.holds Try.pinned (OpenSpec.ofChange fnExactIsColoringWrong)

/-- 'laws.FnExactIsOrientation': WHATEVER THE INPUT: true; the input reads as it did. -/
def fnExactIsOrientationSpec : ChangeSpec := { name := "fnExactIsOrientation", fn := fun _ => fun
  | [d1, d2] => { results := [.lit (.bool true)], args := [d1, d2] }
  | _ => none }
def fnExactIsOrientationRow : OpenClaim := { program := "ytcaoelihmkbedaa", sum := "aa7d82be2d857584c82ec8982150d466fccd9178129ddaf3a4fe80753f0aafda", func := "loop.example/g02081/laws.FnExactIsOrientation", spec := "fnExactIsOrientation", apart := false }
def FnExactIsOrientationSaid : Prop := fnExactIsOrientationRow.holds Try.pinned (OpenSpec.ofChange fnExactIsOrientationSpec)

/-- ITS FALSE NEIGHBOUR: 'it returns false'. Refute it at one input. -/
def fnExactIsOrientationWrong : ChangeSpec := { name := "fnExactIsOrientation", fn := fun _ => fun
  | [d1, d2] => { results := [.lit (.bool false)], args := [d1, d2] }
  | _ => none }
def FnExactIsOrientationWrongFalsely : Prop := fnExactIsOrientationRow.holds Try.pinned (OpenSpec.ofChange fnExactIsOrientationWrong)

/-- 'laws.FnExactLargestIndependent': WHATEVER THE INPUT: true; the input reads as it did. -/
def fnExactLargestIndependentSpec : ChangeSpec := { name := "fnExactLargestIndependent", fn := fun _ => fun
  | [d] => { results := [.lit (.bool true)], args := [d] }
  | _ => none }
def fnExactLargestIndependentRow : OpenClaim := { program := "ytcaoelihmkbedaa", sum := "aa7d82be2d857584c82ec8982150d466fccd9178129ddaf3a4fe80753f0aafda", func := "loop.example/g02081/laws.FnExactLargestIndependent", spec := "fnExactLargestIndependent", unfollowed := true, recurses := true, apart := false }
def FnExactLargestIndependentSaid : Prop := fnExactLargestIndependentRow.holds Try.pinned (OpenSpec.ofChange fnExactLargestIndependentSpec)

/-- ITS FALSE NEIGHBOUR: 'it returns false'. Refute it at one input. -/
def fnExactLargestIndependentWrong : ChangeSpec := { name := "fnExactLargestIndependent", fn := fun _ => fun
  | [d] => { results := [.lit (.bool false)], args := [d] }
  | _ => none }
def FnExactLargestIndependentWrongFalsely : Prop := fnExactLargestIndependentRow.holds Try.pinned (OpenSpec.ofChange fnExactLargestIndependentWrong)

/-- 'laws.FnExactLargestClique': WHATEVER THE INPUT: true; the input reads as it did. -/
def fnExactLargestCliqueSpec : ChangeSpec := { name := "fnExactLargestClique", fn := fun _ => fun
  | [d] => { results := [.lit (.bool true)], args := [d] }
  | _ => none }
def fnExactLargestCliqueRow : OpenClaim := { program := "ytcaoelihmkbedaa", sum := "aa7d82be2d857584c82ec8982150d466fccd9178129ddaf3a4fe80753f0aafda", func := "loop.example/g02081/laws.FnExactLargestClique", spec := "fnExactLargestClique", unfollowed := true, recurses := true, apart := false }
def FnExactLargestCliqueSaid : Prop := fnExactLargestCliqueRow.holds Try.pinned (OpenSpec.ofChange fnExactLargestCliqueSpec)

/-- ITS FALSE NEIGHBOUR: 'it returns false'. Refute it at one input. -/
def fnExactLargestCliqueWrong : ChangeSpec := { name := "fnExactLargestClique", fn := fun _ => fun
  | [d] => { results := [.lit (.bool false)], args := [d] }
  | _ => none }
def FnExactLargestCliqueWrongFalsely : Prop := fnExactLargestCliqueRow.holds Try.pinned (OpenSpec.ofChange fnExactLargestCliqueWrong)

/-- 'laws.FnExactCliqueNumber': WHATEVER THE INPUT: true; the input reads as it did. -/
def fnExactCliqueNumberSpec : ChangeSpec := { name := "fnExactCliqueNumber", fn := fun _ => fun
  | [d] => { results := [.lit (.bool true)], args := [d] }
  | _ => none }
def fnExactCliqueNumberRow : OpenClaim := { program := "ytcaoelihmkbedaa", sum := "aa7d82be2d857584c82ec8982150d466fccd9178129ddaf3a4fe80753f0aafda", func := "loop.example/g02081/laws.FnExactCliqueNumber", spec := "fnExactCliqueNumber", unfollowed := true, recurses := true, apart := false }
def FnExactCliqueNumberSaid : Prop := fnExactCliqueNumberRow.holds Try.pinned (OpenSpec.ofChange fnExactCliqueNumberSpec)

/-- ITS FALSE NEIGHBOUR: 'it returns false'. Refute it at one input. -/
def fnExactCliqueNumberWrong : ChangeSpec := { name := "fnExactCliqueNumber", fn := fun _ => fun
  | [d] => { results := [.lit (.bool false)], args := [d] }
  | _ => none }
def FnExactCliqueNumberWrongFalsely : Prop := fnExactCliqueNumberRow.holds Try.pinned (OpenSpec.ofChange fnExactCliqueNumberWrong)

/-- 'laws.FnExactMaximalCliques': WHATEVER THE INPUT: true; the input reads as it did. -/
def fnExactMaximalCliquesSpec : ChangeSpec := { name := "fnExactMaximalCliques", fn := fun _ => fun
  | [d] => { results := [.lit (.bool true)], args := [d] }
  | _ => none }
def fnExactMaximalCliquesRow : OpenClaim := { program := "ytcaoelihmkbedaa", sum := "aa7d82be2d857584c82ec8982150d466fccd9178129ddaf3a4fe80753f0aafda", func := "loop.example/g02081/laws.FnExactMaximalCliques", spec := "fnExactMaximalCliques", apart := false }
def FnExactMaximalCliquesSaid : Prop := fnExactMaximalCliquesRow.holds Try.pinned (OpenSpec.ofChange fnExactMaximalCliquesSpec)

/-- ITS FALSE NEIGHBOUR: 'it returns false'. Refute it at one input. -/
def fnExactMaximalCliquesWrong : ChangeSpec := { name := "fnExactMaximalCliques", fn := fun _ => fun
  | [d] => { results := [.lit (.bool false)], args := [d] }
  | _ => none }
def FnExactMaximalCliquesWrongFalsely : Prop := fnExactMaximalCliquesRow.holds Try.pinned (OpenSpec.ofChange fnExactMaximalCliquesWrong)

/-- 'laws.FnExactGraphOfIntervals': WHATEVER THE INPUT: true; the input reads as it did. -/
def fnExactGraphOfIntervalsSpec : ChangeSpec := { name := "fnExactGraphOfIntervals", fn := fun _ => fun
  | [d] => { results := [.lit (.bool true)], args := [d] }
  | _ => none }
def fnExactGraphOfIntervalsRow : OpenClaim := { program := "ytcaoelihmkbedaa", sum := "aa7d82be2d857584c82ec8982150d466fccd9178129ddaf3a4fe80753f0aafda", func := "loop.example/g02081/laws.FnExactGraphOfIntervals", spec := "fnExactGraphOfIntervals", unfollowed := true, recurses := true, apart := false }
def FnExactGraphOfIntervalsSaid : Prop := fnExactGraphOfIntervalsRow.holds Try.pinned (OpenSpec.ofChange fnExactGraphOfIntervalsSpec)

/-- ITS FALSE NEIGHBOUR: 'it returns false'. Refute it at one input. -/
def fnExactGraphOfIntervalsWrong : ChangeSpec := { name := "fnExactGraphOfIntervals", fn := fun _ => fun
  | [d] => { results := [.lit (.bool false)], args := [d] }
  | _ => none }
def FnExactGraphOfIntervalsWrongFalsely : Prop := fnExactGraphOfIntervalsRow.holds Try.pinned (OpenSpec.ofChange fnExactGraphOfIntervalsWrong)

/-- 'laws.FnExactIsTransitive': WHATEVER THE INPUT: true; the input reads as it did. -/
def fnExactIsTransitiveSpec : ChangeSpec := { name := "fnExactIsTransitive", fn := fun _ => fun
  | [d1, d2] => { results := [.lit (.bool true)], args := [d1, d2] }
  | _ => none }
def fnExactIsTransitiveRow : OpenClaim := { program := "ytcaoelihmkbedaa", sum := "aa7d82be2d857584c82ec8982150d466fccd9178129ddaf3a4fe80753f0aafda", func := "loop.example/g02081/laws.FnExactIsTransitive", spec := "fnExactIsTransitive", apart := false }
def FnExactIsTransitiveSaid : Prop := fnExactIsTransitiveRow.holds Try.pinned (OpenSpec.ofChange fnExactIsTransitiveSpec)

/-- ITS FALSE NEIGHBOUR: 'it returns false'. Refute it at one input. -/
def fnExactIsTransitiveWrong : ChangeSpec := { name := "fnExactIsTransitive", fn := fun _ => fun
  | [d1, d2] => { results := [.lit (.bool false)], args := [d1, d2] }
  | _ => none }
def FnExactIsTransitiveWrongFalsely : Prop := fnExactIsTransitiveRow.holds Try.pinned (OpenSpec.ofChange fnExactIsTransitiveWrong)

/-- 'laws.FnExactIsMinimalSeparator': WHATEVER THE INPUT: true; the input reads as it did. -/
def fnExactIsMinimalSeparatorSpec : ChangeSpec := { name := "fnExactIsMinimalSeparator", fn := fun _ => fun
  | [d1, d2] => { results := [.lit (.bool true)], args := [d1, d2] }
  | _ => none }
def fnExactIsMinimalSeparatorRow : OpenClaim := { program := "ytcaoelihmkbedaa", sum := "aa7d82be2d857584c82ec8982150d466fccd9178129ddaf3a4fe80753f0aafda", func := "loop.example/g02081/laws.FnExactIsMinimalSeparator", spec := "fnExactIsMinimalSeparator", apart := false }
def FnExactIsMinimalSeparatorSaid : Prop := fnExactIsMinimalSeparatorRow.holds Try.pinned (OpenSpec.ofChange fnExactIsMinimalSeparatorSpec)

/-- ITS FALSE NEIGHBOUR: 'it returns false'. Refute it at one input. -/
def fnExactIsMinimalSeparatorWrong : ChangeSpec := { name := "fnExactIsMinimalSeparator", fn := fun _ => fun
  | [d1, d2] => { results := [.lit (.bool false)], args := [d1, d2] }
  | _ => none }
def FnExactIsMinimalSeparatorWrongFalsely : Prop := fnExactIsMinimalSeparatorRow.holds Try.pinned (OpenSpec.ofChange fnExactIsMinimalSeparatorWrong)

/-- 'laws.FnExactIsModelOf': WHATEVER THE INPUT: true; the input reads as it did. -/
def fnExactIsModelOfSpec : ChangeSpec := { name := "fnExactIsModelOf", fn := fun _ => fun
  | [d1, d2] => { results := [.lit (.bool true)], args := [d1, d2] }
  | _ => none }
def fnExactIsModelOfRow : OpenClaim := { program := "ytcaoelihmkbedaa", sum := "aa7d82be2d857584c82ec8982150d466fccd9178129ddaf3a4fe80753f0aafda", func := "loop.example/g02081/laws.FnExactIsModelOf", spec := "fnExactIsModelOf", unfollowed := true, recurses := true, apart := false }
def FnExactIsModelOfSaid : Prop := fnExactIsModelOfRow.holds Try.pinned (OpenSpec.ofChange fnExactIsModelOfSpec)

/-- ITS FALSE NEIGHBOUR: 'it returns false'. Refute it at one input. -/
def fnExactIsModelOfWrong : ChangeSpec := { name := "fnExactIsModelOf", fn := fun _ => fun
  | [d1, d2] => { results := [.lit (.bool false)], args := [d1, d2] }
  | _ => none }
def FnExactIsModelOfWrongFalsely : Prop := fnExactIsModelOfRow.holds Try.pinned (OpenSpec.ofChange fnExactIsModelOfWrong)

/-- 'laws.FnExactSeparatorsOf': WHATEVER THE INPUT: true; the input reads as it did. -/
def fnExactSeparatorsOfSpec : ChangeSpec := { name := "fnExactSeparatorsOf", fn := fun _ => fun
  | [d] => { results := [.lit (.bool true)], args := [d] }
  | _ => none }
def fnExactSeparatorsOfRow : OpenClaim := { program := "ytcaoelihmkbedaa", sum := "aa7d82be2d857584c82ec8982150d466fccd9178129ddaf3a4fe80753f0aafda", func := "loop.example/g02081/laws.FnExactSeparatorsOf", spec := "fnExactSeparatorsOf", apart := false }
def FnExactSeparatorsOfSaid : Prop := fnExactSeparatorsOfRow.holds Try.pinned (OpenSpec.ofChange fnExactSeparatorsOfSpec)

/-- ITS FALSE NEIGHBOUR: 'it returns false'. Refute it at one input. -/
def fnExactSeparatorsOfWrong : ChangeSpec := { name := "fnExactSeparatorsOf", fn := fun _ => fun
  | [d] => { results := [.lit (.bool false)], args := [d] }
  | _ => none }
def FnExactSeparatorsOfWrongFalsely : Prop := fnExactSeparatorsOfRow.holds Try.pinned (OpenSpec.ofChange fnExactSeparatorsOfWrong)

/-- 'laws.FnExactHeightsOf': WHATEVER THE INPUT: true; the input reads as it did. -/
def fnExactHeightsOfSpec : ChangeSpec := { name := "fnExactHeightsOf", fn := fun _ => fun
  | [d1, d2] => { results := [.lit (.bool true)], args := [d1, d2] }
  | _ => none }
def fnExactHeightsOfRow : OpenClaim := { program := "ytcaoelihmkbedaa", sum := "aa7d82be2d857584c82ec8982150d466fccd9178129ddaf3a4fe80753f0aafda", func := "loop.example/g02081/laws.FnExactHeightsOf", spec := "fnExactHeightsOf", apart := false }
def FnExactHeightsOfSaid : Prop := fnExactHeightsOfRow.holds Try.pinned (OpenSpec.ofChange fnExactHeightsOfSpec)

/-- ITS FALSE NEIGHBOUR: 'it returns false'. Refute it at one input. -/
def fnExactHeightsOfWrong : ChangeSpec := { name := "fnExactHeightsOf", fn := fun _ => fun
  | [d1, d2] => { results := [.lit (.bool false)], args := [d1, d2] }
  | _ => none }
def FnExactHeightsOfWrongFalsely : Prop := fnExactHeightsOfRow.holds Try.pinned (OpenSpec.ofChange fnExactHeightsOfWrong)

/- THE SECOND FORM. 'bulk': how many values and letters a reading holds, each counted each time it is reached (what is shared counts as often as it is met; a slice's spare places count too). A statement '..UptoSaid' is the law's where the arguments, and the package variables that the reading takes, are together of bulk at most 1048576: NARROWER than '..Said'. Prove '..Said' where nothing that the law and all that it calls make is longer than what came in: it says more and counts as full. Else prove '..UptoSaid'. A law counts once. -/
mutual
def uptoBulk {H : Type} : DataW H → Nat
  | .lit (.string bytes) => bytes.length + 1
  | .lit _ => 1
  | .nil => 1
  | .ptr d => uptoBulk d + 1
  | .slice elems spare => uptoBulkAll elems + uptoBulkAll spare + 1
  | .agg parts => uptoBulkAll parts + 1
  | .iface _ d => uptoBulk d + 1
  | .map entries => uptoBulkEntries entries + 1
  | .held _ => 1
def uptoBulkAll {H : Type} : List (DataW H) → Nat
  | [] => 0
  | d :: r => uptoBulk d + uptoBulkAll r
def uptoBulkEntries {H : Type} : List (Lit × DataW H) → Nat
  | [] => 0
  | x :: r => uptoBulkEntry x + uptoBulkEntries r
def uptoBulkEntry {H : Type} : Lit × DataW H → Nat
  | (.string bytes, d) => bytes.length + uptoBulk d + 1
  | (_, d) => uptoBulk d + 1
 end
def uptoSmall : (H : Type) → List (DataW H) → Bool := fun _ ds => decide (uptoBulkAll ds ≤ 1048576)
def OpenSpec.upto (s : _root_.Go.ChangeSpec) : _root_.Go.OpenSpec := { _root_.Go.OpenSpec.ofChange s with cond := some uptoSmall }

/-- 'laws.FnExactIsColoring', WHERE WHAT IT READS IS OF BULK AT MOST 1048576: true; the input reads as it did. -/
def fnExactIsColoringUptoRow : OpenClaim := { program := "ytcaoelihmkbedaa", sum := "aa7d82be2d857584c82ec8982150d466fccd9178129ddaf3a4fe80753f0aafda", func := "loop.example/g02081/laws.FnExactIsColoring", spec := "fnExactIsColoring", apart := false, narrowed := true }
def FnExactIsColoringUptoSaid : Prop := fnExactIsColoringUptoRow.holds Try.pinned (OpenSpec.upto fnExactIsColoringSpec)

/-- 'laws.FnExactIsOrientation', WHERE WHAT IT READS IS OF BULK AT MOST 1048576: true; the input reads as it did. -/
def fnExactIsOrientationUptoRow : OpenClaim := { program := "ytcaoelihmkbedaa", sum := "aa7d82be2d857584c82ec8982150d466fccd9178129ddaf3a4fe80753f0aafda", func := "loop.example/g02081/laws.FnExactIsOrientation", spec := "fnExactIsOrientation", apart := false, narrowed := true }
def FnExactIsOrientationUptoSaid : Prop := fnExactIsOrientationUptoRow.holds Try.pinned (OpenSpec.upto fnExactIsOrientationSpec)

/-- 'laws.FnExactLargestIndependent', WHERE WHAT IT READS IS OF BULK AT MOST 1048576: true; the input reads as it did. -/
def fnExactLargestIndependentUptoRow : OpenClaim := { program := "ytcaoelihmkbedaa", sum := "aa7d82be2d857584c82ec8982150d466fccd9178129ddaf3a4fe80753f0aafda", func := "loop.example/g02081/laws.FnExactLargestIndependent", spec := "fnExactLargestIndependent", unfollowed := true, recurses := true, apart := false, narrowed := true }
def FnExactLargestIndependentUptoSaid : Prop := fnExactLargestIndependentUptoRow.holds Try.pinned (OpenSpec.upto fnExactLargestIndependentSpec)

/-- 'laws.FnExactLargestClique', WHERE WHAT IT READS IS OF BULK AT MOST 1048576: true; the input reads as it did. -/
def fnExactLargestCliqueUptoRow : OpenClaim := { program := "ytcaoelihmkbedaa", sum := "aa7d82be2d857584c82ec8982150d466fccd9178129ddaf3a4fe80753f0aafda", func := "loop.example/g02081/laws.FnExactLargestClique", spec := "fnExactLargestClique", unfollowed := true, recurses := true, apart := false, narrowed := true }
def FnExactLargestCliqueUptoSaid : Prop := fnExactLargestCliqueUptoRow.holds Try.pinned (OpenSpec.upto fnExactLargestCliqueSpec)

/-- 'laws.FnExactCliqueNumber', WHERE WHAT IT READS IS OF BULK AT MOST 1048576: true; the input reads as it did. -/
def fnExactCliqueNumberUptoRow : OpenClaim := { program := "ytcaoelihmkbedaa", sum := "aa7d82be2d857584c82ec8982150d466fccd9178129ddaf3a4fe80753f0aafda", func := "loop.example/g02081/laws.FnExactCliqueNumber", spec := "fnExactCliqueNumber", unfollowed := true, recurses := true, apart := false, narrowed := true }
def FnExactCliqueNumberUptoSaid : Prop := fnExactCliqueNumberUptoRow.holds Try.pinned (OpenSpec.upto fnExactCliqueNumberSpec)

/-- 'laws.FnExactMaximalCliques', WHERE WHAT IT READS IS OF BULK AT MOST 1048576: true; the input reads as it did. -/
def fnExactMaximalCliquesUptoRow : OpenClaim := { program := "ytcaoelihmkbedaa", sum := "aa7d82be2d857584c82ec8982150d466fccd9178129ddaf3a4fe80753f0aafda", func := "loop.example/g02081/laws.FnExactMaximalCliques", spec := "fnExactMaximalCliques", apart := false, narrowed := true }
def FnExactMaximalCliquesUptoSaid : Prop := fnExactMaximalCliquesUptoRow.holds Try.pinned (OpenSpec.upto fnExactMaximalCliquesSpec)

/-- 'laws.FnExactGraphOfIntervals', WHERE WHAT IT READS IS OF BULK AT MOST 1048576: true; the input reads as it did. -/
def fnExactGraphOfIntervalsUptoRow : OpenClaim := { program := "ytcaoelihmkbedaa", sum := "aa7d82be2d857584c82ec8982150d466fccd9178129ddaf3a4fe80753f0aafda", func := "loop.example/g02081/laws.FnExactGraphOfIntervals", spec := "fnExactGraphOfIntervals", unfollowed := true, recurses := true, apart := false, narrowed := true }
def FnExactGraphOfIntervalsUptoSaid : Prop := fnExactGraphOfIntervalsUptoRow.holds Try.pinned (OpenSpec.upto fnExactGraphOfIntervalsSpec)

/-- 'laws.FnExactIsTransitive', WHERE WHAT IT READS IS OF BULK AT MOST 1048576: true; the input reads as it did. -/
def fnExactIsTransitiveUptoRow : OpenClaim := { program := "ytcaoelihmkbedaa", sum := "aa7d82be2d857584c82ec8982150d466fccd9178129ddaf3a4fe80753f0aafda", func := "loop.example/g02081/laws.FnExactIsTransitive", spec := "fnExactIsTransitive", apart := false, narrowed := true }
def FnExactIsTransitiveUptoSaid : Prop := fnExactIsTransitiveUptoRow.holds Try.pinned (OpenSpec.upto fnExactIsTransitiveSpec)

/-- 'laws.FnExactIsMinimalSeparator', WHERE WHAT IT READS IS OF BULK AT MOST 1048576: true; the input reads as it did. -/
def fnExactIsMinimalSeparatorUptoRow : OpenClaim := { program := "ytcaoelihmkbedaa", sum := "aa7d82be2d857584c82ec8982150d466fccd9178129ddaf3a4fe80753f0aafda", func := "loop.example/g02081/laws.FnExactIsMinimalSeparator", spec := "fnExactIsMinimalSeparator", apart := false, narrowed := true }
def FnExactIsMinimalSeparatorUptoSaid : Prop := fnExactIsMinimalSeparatorUptoRow.holds Try.pinned (OpenSpec.upto fnExactIsMinimalSeparatorSpec)

/-- 'laws.FnExactIsModelOf', WHERE WHAT IT READS IS OF BULK AT MOST 1048576: true; the input reads as it did. -/
def fnExactIsModelOfUptoRow : OpenClaim := { program := "ytcaoelihmkbedaa", sum := "aa7d82be2d857584c82ec8982150d466fccd9178129ddaf3a4fe80753f0aafda", func := "loop.example/g02081/laws.FnExactIsModelOf", spec := "fnExactIsModelOf", unfollowed := true, recurses := true, apart := false, narrowed := true }
def FnExactIsModelOfUptoSaid : Prop := fnExactIsModelOfUptoRow.holds Try.pinned (OpenSpec.upto fnExactIsModelOfSpec)

/-- 'laws.FnExactSeparatorsOf', WHERE WHAT IT READS IS OF BULK AT MOST 1048576: true; the input reads as it did. -/
def fnExactSeparatorsOfUptoRow : OpenClaim := { program := "ytcaoelihmkbedaa", sum := "aa7d82be2d857584c82ec8982150d466fccd9178129ddaf3a4fe80753f0aafda", func := "loop.example/g02081/laws.FnExactSeparatorsOf", spec := "fnExactSeparatorsOf", apart := false, narrowed := true }
def FnExactSeparatorsOfUptoSaid : Prop := fnExactSeparatorsOfUptoRow.holds Try.pinned (OpenSpec.upto fnExactSeparatorsOfSpec)

/-- 'laws.FnExactHeightsOf', WHERE WHAT IT READS IS OF BULK AT MOST 1048576: true; the input reads as it did. -/
def fnExactHeightsOfUptoRow : OpenClaim := { program := "ytcaoelihmkbedaa", sum := "aa7d82be2d857584c82ec8982150d466fccd9178129ddaf3a4fe80753f0aafda", func := "loop.example/g02081/laws.FnExactHeightsOf", spec := "fnExactHeightsOf", apart := false, narrowed := true }
def FnExactHeightsOfUptoSaid : Prop := fnExactHeightsOfUptoRow.holds Try.pinned (OpenSpec.upto fnExactHeightsOfSpec)

end Rows
end Go.Proofs.Ytcaoelihmkbedaa
