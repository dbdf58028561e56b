/-
  No cell of these rows narrows 'for every input' (looked for: loops, veiled, ifaces, maps, wideKeys, modest, calm, conditions, laid).
  DERIVED. THE GIVEN ROWS OF THIS SEAT. 12 by the template 'for every input the law returns true; each argument reads behind the call as it read before'; 0 by the template 'total and deterministic' (their statements: YtejimjpflbhhnaaTotals.lean).
  GIVEN WITH THE SEED: the statements are not yours to turn. If you find one false, say at which input.
  Laid BY PROGRAM, IN A SANDBOX (cutbox-rows.mjs): the forced cells as the released guide's own fill.sh prints them over the translation 0a383416fd9e41d0… (all of the seat's roots in one cut). By AI agents, Wed Nov 11 2026. No macro, syntax, notation, axiom, sorry.
-/
import Derived.Test.YtejimjpflbhhnaaChecked
import GoSem.Claim
import GoSem.ClaimJoined
import GoSem.ClaimMapViews
import Derived.JoinedTies
import Derived.KernelRfl
namespace Go.Proofs.Ytejimjpflbhhnaa
/- THE CELL 'sum', in the pinned program and in every row, IS THE sha256 OF THE DUMP (.gsa) THAT YtejimjpflbhhnaaProg.lean LOADS. Nothing in Lean hashes anything: it is a label: what it is worth is what the hold of that sum in a sandbox is worth. -/
noncomputable def Try.pinned : Pinned := { name := "ytejimjpflbhhnaa", sum := "0a383416fd9e41d019d284d60cc5be589e3d8e994447081cf1845326d2ba69b5", checked := Try.checked }
namespace Rows
def none {H : Type} : Left H := { results := [], args := [] }

/-- 'laws.FnExactStepsOk': WHATEVER THE INPUT: true; the input reads as it did. -/
def fnExactStepsOkSpec : ChangeSpec := { name := "fnExactStepsOk", fn := fun _ => fun
  | [d] => { results := [.lit (.bool true)], args := [d] }
  | _ => none }
def fnExactStepsOkRow : OpenClaim := { program := "ytejimjpflbhhnaa", sum := "0a383416fd9e41d019d284d60cc5be589e3d8e994447081cf1845326d2ba69b5", func := "loop.example/g00806/laws.FnExactStepsOk", spec := "fnExactStepsOk", apart := false }
def FnExactStepsOkSaid : Prop := fnExactStepsOkRow.holds Try.pinned (OpenSpec.ofChange fnExactStepsOkSpec)

/-- ITS FALSE NEIGHBOUR: 'it returns false'. Refute it at one input. -/
def fnExactStepsOkWrong : ChangeSpec := { name := "fnExactStepsOk", fn := fun _ => fun
  | [d] => { results := [.lit (.bool false)], args := [d] }
  | _ => none }
def FnExactStepsOkWrongFalsely : Prop := fnExactStepsOkRow.holds Try.pinned (OpenSpec.ofChange fnExactStepsOkWrong)

/-- 'laws.FnExactStepsEqual': WHATEVER THE INPUT: true; the input reads as it did. -/
def fnExactStepsEqualSpec : ChangeSpec := { name := "fnExactStepsEqual", fn := fun _ => fun
  | [d1, d2] => { results := [.lit (.bool true)], args := [d1, d2] }
  | _ => none }
def fnExactStepsEqualRow : OpenClaim := { program := "ytejimjpflbhhnaa", sum := "0a383416fd9e41d019d284d60cc5be589e3d8e994447081cf1845326d2ba69b5", func := "loop.example/g00806/laws.FnExactStepsEqual", spec := "fnExactStepsEqual", apart := false }
def FnExactStepsEqualSaid : Prop := fnExactStepsEqualRow.holds Try.pinned (OpenSpec.ofChange fnExactStepsEqualSpec)

/-- ITS FALSE NEIGHBOUR: 'it returns false'. Refute it at one input. -/
def fnExactStepsEqualWrong : ChangeSpec := { name := "fnExactStepsEqual", fn := fun _ => fun
  | [d1, d2] => { results := [.lit (.bool false)], args := [d1, d2] }
  | _ => none }
def FnExactStepsEqualWrongFalsely : Prop := fnExactStepsEqualRow.holds Try.pinned (OpenSpec.ofChange fnExactStepsEqualWrong)

/-- 'laws.FnExactCapacityAt': WHATEVER THE INPUT: true; the input reads as it did. -/
def fnExactCapacityAtSpec : ChangeSpec := { name := "fnExactCapacityAt", fn := fun _ => fun
  | [d1, d2] => { results := [.lit (.bool true)], args := [d1, d2] }
  | _ => none }
def fnExactCapacityAtRow : OpenClaim := { program := "ytejimjpflbhhnaa", sum := "0a383416fd9e41d019d284d60cc5be589e3d8e994447081cf1845326d2ba69b5", func := "loop.example/g00806/laws.FnExactCapacityAt", spec := "fnExactCapacityAt", apart := false }
def FnExactCapacityAtSaid : Prop := fnExactCapacityAtRow.holds Try.pinned (OpenSpec.ofChange fnExactCapacityAtSpec)

/-- ITS FALSE NEIGHBOUR: 'it returns false'. Refute it at one input. -/
def fnExactCapacityAtWrong : ChangeSpec := { name := "fnExactCapacityAt", fn := fun _ => fun
  | [d1, d2] => { results := [.lit (.bool false)], args := [d1, d2] }
  | _ => none }
def FnExactCapacityAtWrongFalsely : Prop := fnExactCapacityAtRow.holds Try.pinned (OpenSpec.ofChange fnExactCapacityAtWrong)

/-- 'laws.FnExactTotalCapacity': WHATEVER THE INPUT: true; the input reads as it did. -/
def fnExactTotalCapacitySpec : ChangeSpec := { name := "fnExactTotalCapacity", fn := fun _ => fun
  | [d1, d2, d3] => { results := [.lit (.bool true)], args := [d1, d2, d3] }
  | _ => none }
def fnExactTotalCapacityRow : OpenClaim := { program := "ytejimjpflbhhnaa", sum := "0a383416fd9e41d019d284d60cc5be589e3d8e994447081cf1845326d2ba69b5", func := "loop.example/g00806/laws.FnExactTotalCapacity", spec := "fnExactTotalCapacity", apart := false }
def FnExactTotalCapacitySaid : Prop := fnExactTotalCapacityRow.holds Try.pinned (OpenSpec.ofChange fnExactTotalCapacitySpec)

/-- ITS FALSE NEIGHBOUR: 'it returns false'. Refute it at one input. -/
def fnExactTotalCapacityWrong : ChangeSpec := { name := "fnExactTotalCapacity", fn := fun _ => fun
  | [d1, d2, d3] => { results := [.lit (.bool false)], args := [d1, d2, d3] }
  | _ => none }
def FnExactTotalCapacityWrongFalsely : Prop := fnExactTotalCapacityRow.holds Try.pinned (OpenSpec.ofChange fnExactTotalCapacityWrong)

/-- 'laws.FnExactMinCapacity': WHATEVER THE INPUT: true; the input reads as it did. -/
def fnExactMinCapacitySpec : ChangeSpec := { name := "fnExactMinCapacity", fn := fun _ => fun
  | [d1, d2, d3] => { results := [.lit (.bool true)], args := [d1, d2, d3] }
  | _ => none }
def fnExactMinCapacityRow : OpenClaim := { program := "ytejimjpflbhhnaa", sum := "0a383416fd9e41d019d284d60cc5be589e3d8e994447081cf1845326d2ba69b5", func := "loop.example/g00806/laws.FnExactMinCapacity", spec := "fnExactMinCapacity", apart := false }
def FnExactMinCapacitySaid : Prop := fnExactMinCapacityRow.holds Try.pinned (OpenSpec.ofChange fnExactMinCapacitySpec)

/-- ITS FALSE NEIGHBOUR: 'it returns false'. Refute it at one input. -/
def fnExactMinCapacityWrong : ChangeSpec := { name := "fnExactMinCapacity", fn := fun _ => fun
  | [d1, d2, d3] => { results := [.lit (.bool false)], args := [d1, d2, d3] }
  | _ => none }
def FnExactMinCapacityWrongFalsely : Prop := fnExactMinCapacityRow.holds Try.pinned (OpenSpec.ofChange fnExactMinCapacityWrong)

/-- 'laws.FnExactMergeSteps': WHATEVER THE INPUT: true; the input reads as it did. -/
def fnExactMergeStepsSpec : ChangeSpec := { name := "fnExactMergeSteps", fn := fun _ => fun
  | [d] => { results := [.lit (.bool true)], args := [d] }
  | _ => none }
def fnExactMergeStepsRow : OpenClaim := { program := "ytejimjpflbhhnaa", sum := "0a383416fd9e41d019d284d60cc5be589e3d8e994447081cf1845326d2ba69b5", func := "loop.example/g00806/laws.FnExactMergeSteps", spec := "fnExactMergeSteps", apart := false }
def FnExactMergeStepsSaid : Prop := fnExactMergeStepsRow.holds Try.pinned (OpenSpec.ofChange fnExactMergeStepsSpec)

/-- ITS FALSE NEIGHBOUR: 'it returns false'. Refute it at one input. -/
def fnExactMergeStepsWrong : ChangeSpec := { name := "fnExactMergeSteps", fn := fun _ => fun
  | [d] => { results := [.lit (.bool false)], args := [d] }
  | _ => none }
def FnExactMergeStepsWrongFalsely : Prop := fnExactMergeStepsRow.holds Try.pinned (OpenSpec.ofChange fnExactMergeStepsWrong)

/-- 'laws.FnExactReduceCapacity': WHATEVER THE INPUT: true; the input reads as it did. -/
def fnExactReduceCapacitySpec : ChangeSpec := { name := "fnExactReduceCapacity", fn := fun _ => fun
  | [d1, d2, d3, d4] => { results := [.lit (.bool true)], args := [d1, d2, d3, d4] }
  | _ => none }
def fnExactReduceCapacityRow : OpenClaim := { program := "ytejimjpflbhhnaa", sum := "0a383416fd9e41d019d284d60cc5be589e3d8e994447081cf1845326d2ba69b5", func := "loop.example/g00806/laws.FnExactReduceCapacity", spec := "fnExactReduceCapacity", apart := false }
def FnExactReduceCapacitySaid : Prop := fnExactReduceCapacityRow.holds Try.pinned (OpenSpec.ofChange fnExactReduceCapacitySpec)

/-- ITS FALSE NEIGHBOUR: 'it returns false'. Refute it at one input. -/
def fnExactReduceCapacityWrong : ChangeSpec := { name := "fnExactReduceCapacity", fn := fun _ => fun
  | [d1, d2, d3, d4] => { results := [.lit (.bool false)], args := [d1, d2, d3, d4] }
  | _ => none }
def FnExactReduceCapacityWrongFalsely : Prop := fnExactReduceCapacityRow.holds Try.pinned (OpenSpec.ofChange fnExactReduceCapacityWrong)

/-- 'laws.FnExactModeOk': WHATEVER THE INPUT: true; the input reads as it did. -/
def fnExactModeOkSpec : ChangeSpec := { name := "fnExactModeOk", fn := fun _ => fun
  | [d1, d2, d3] => { results := [.lit (.bool true)], args := [d1, d2, d3] }
  | _ => none }
def fnExactModeOkRow : OpenClaim := { program := "ytejimjpflbhhnaa", sum := "0a383416fd9e41d019d284d60cc5be589e3d8e994447081cf1845326d2ba69b5", func := "loop.example/g00806/laws.FnExactModeOk", spec := "fnExactModeOk", apart := false }
def FnExactModeOkSaid : Prop := fnExactModeOkRow.holds Try.pinned (OpenSpec.ofChange fnExactModeOkSpec)

/-- ITS FALSE NEIGHBOUR: 'it returns false'. Refute it at one input. -/
def fnExactModeOkWrong : ChangeSpec := { name := "fnExactModeOk", fn := fun _ => fun
  | [d1, d2, d3] => { results := [.lit (.bool false)], args := [d1, d2, d3] }
  | _ => none }
def FnExactModeOkWrongFalsely : Prop := fnExactModeOkRow.holds Try.pinned (OpenSpec.ofChange fnExactModeOkWrong)

/-- 'laws.FnExactMaxDuration': WHATEVER THE INPUT: true; the input reads as it did. -/
def fnExactMaxDurationSpec : ChangeSpec := { name := "fnExactMaxDuration", fn := fun _ => fun
  | [d1, d2] => { results := [.lit (.bool true)], args := [d1, d2] }
  | _ => none }
def fnExactMaxDurationRow : OpenClaim := { program := "ytejimjpflbhhnaa", sum := "0a383416fd9e41d019d284d60cc5be589e3d8e994447081cf1845326d2ba69b5", func := "loop.example/g00806/laws.FnExactMaxDuration", spec := "fnExactMaxDuration", apart := false }
def FnExactMaxDurationSaid : Prop := fnExactMaxDurationRow.holds Try.pinned (OpenSpec.ofChange fnExactMaxDurationSpec)

/-- ITS FALSE NEIGHBOUR: 'it returns false'. Refute it at one input. -/
def fnExactMaxDurationWrong : ChangeSpec := { name := "fnExactMaxDuration", fn := fun _ => fun
  | [d1, d2] => { results := [.lit (.bool false)], args := [d1, d2] }
  | _ => none }
def FnExactMaxDurationWrongFalsely : Prop := fnExactMaxDurationRow.holds Try.pinned (OpenSpec.ofChange fnExactMaxDurationWrong)

/-- 'laws.FnExactMinDuration': WHATEVER THE INPUT: true; the input reads as it did. -/
def fnExactMinDurationSpec : ChangeSpec := { name := "fnExactMinDuration", fn := fun _ => fun
  | [d1, d2] => { results := [.lit (.bool true)], args := [d1, d2] }
  | _ => none }
def fnExactMinDurationRow : OpenClaim := { program := "ytejimjpflbhhnaa", sum := "0a383416fd9e41d019d284d60cc5be589e3d8e994447081cf1845326d2ba69b5", func := "loop.example/g00806/laws.FnExactMinDuration", spec := "fnExactMinDuration", apart := false }
def FnExactMinDurationSaid : Prop := fnExactMinDurationRow.holds Try.pinned (OpenSpec.ofChange fnExactMinDurationSpec)

/-- ITS FALSE NEIGHBOUR: 'it returns false'. Refute it at one input. -/
def fnExactMinDurationWrong : ChangeSpec := { name := "fnExactMinDuration", fn := fun _ => fun
  | [d1, d2] => { results := [.lit (.bool false)], args := [d1, d2] }
  | _ => none }
def FnExactMinDurationWrongFalsely : Prop := fnExactMinDurationRow.holds Try.pinned (OpenSpec.ofChange fnExactMinDurationWrong)

/-- 'laws.FnExactActivityEqual': WHATEVER THE INPUT: true; the input reads as it did. -/
def fnExactActivityEqualSpec : ChangeSpec := { name := "fnExactActivityEqual", fn := fun _ => fun
  | [d1, d2] => { results := [.lit (.bool true)], args := [d1, d2] }
  | _ => none }
def fnExactActivityEqualRow : OpenClaim := { program := "ytejimjpflbhhnaa", sum := "0a383416fd9e41d019d284d60cc5be589e3d8e994447081cf1845326d2ba69b5", func := "loop.example/g00806/laws.FnExactActivityEqual", spec := "fnExactActivityEqual", unfollowed := true, recurses := true, apart := false }
def FnExactActivityEqualSaid : Prop := fnExactActivityEqualRow.holds Try.pinned (OpenSpec.ofChange fnExactActivityEqualSpec)

/-- ITS FALSE NEIGHBOUR: 'it returns false'. Refute it at one input. -/
def fnExactActivityEqualWrong : ChangeSpec := { name := "fnExactActivityEqual", fn := fun _ => fun
  | [d1, d2] => { results := [.lit (.bool false)], args := [d1, d2] }
  | _ => none }
def FnExactActivityEqualWrongFalsely : Prop := fnExactActivityEqualRow.holds Try.pinned (OpenSpec.ofChange fnExactActivityEqualWrong)

/-- 'laws.FnExactResourceOk': WHATEVER THE INPUT: true; the input reads as it did. -/
def fnExactResourceOkSpec : ChangeSpec := { name := "fnExactResourceOk", fn := fun _ => fun
  | [d] => { results := [.lit (.bool true)], args := [d] }
  | _ => none }
def fnExactResourceOkRow : OpenClaim := { program := "ytejimjpflbhhnaa", sum := "0a383416fd9e41d019d284d60cc5be589e3d8e994447081cf1845326d2ba69b5", func := "loop.example/g00806/laws.FnExactResourceOk", spec := "fnExactResourceOk", apart := false }
def FnExactResourceOkSaid : Prop := fnExactResourceOkRow.holds Try.pinned (OpenSpec.ofChange fnExactResourceOkSpec)

/-- ITS FALSE NEIGHBOUR: 'it returns false'. Refute it at one input. -/
def fnExactResourceOkWrong : ChangeSpec := { name := "fnExactResourceOk", fn := fun _ => fun
  | [d] => { results := [.lit (.bool false)], args := [d] }
  | _ => none }
def FnExactResourceOkWrongFalsely : Prop := fnExactResourceOkRow.holds Try.pinned (OpenSpec.ofChange fnExactResourceOkWrong)

/- THE SECOND FORM. 'bulk': how many values and letters a reading holds, each counted each time it is reached (what is shared counts as often as it is met; a slice's spare places count too). A statement '..UptoSaid' is the law's where the arguments, and the package variables that the reading takes, are together of bulk at most 1048576: NARROWER than '..Said'. Prove '..Said' where nothing that the law and all that it calls make is longer than what came in: it says more and counts as full. Else prove '..UptoSaid'. A law counts once. -/
mutual
def uptoBulk {H : Type} : DataW H → Nat
  | .lit (.string bytes) => bytes.length + 1
  | .lit _ => 1
  | .nil => 1
  | .ptr d => uptoBulk d + 1
  | .slice elems spare => uptoBulkAll elems + uptoBulkAll spare + 1
  | .agg parts => uptoBulkAll parts + 1
  | .iface _ d => uptoBulk d + 1
  | .map entries => uptoBulkEntries entries + 1
  | .held _ => 1
def uptoBulkAll {H : Type} : List (DataW H) → Nat
  | [] => 0
  | d :: r => uptoBulk d + uptoBulkAll r
def uptoBulkEntries {H : Type} : List (Lit × DataW H) → Nat
  | [] => 0
  | x :: r => uptoBulkEntry x + uptoBulkEntries r
def uptoBulkEntry {H : Type} : Lit × DataW H → Nat
  | (.string bytes, d) => bytes.length + uptoBulk d + 1
  | (_, d) => uptoBulk d + 1
 end
def uptoSmall : (H : Type) → List (DataW H) → Bool := fun _ ds => decide (uptoBulkAll ds ≤ 1048576)
def OpenSpec.upto (s : _root_.Go.ChangeSpec) : _root_.Go.OpenSpec := { _root_.Go.OpenSpec.ofChange s with cond := some uptoSmall }

/-- 'laws.FnExactStepsOk', WHERE WHAT IT READS IS OF BULK AT MOST 1048576: true; the input reads as it did. -/
def fnExactStepsOkUptoRow : OpenClaim := { program := "ytejimjpflbhhnaa", sum := "0a383416fd9e41d019d284d60cc5be589e3d8e994447081cf1845326d2ba69b5", func := "loop.example/g00806/laws.FnExactStepsOk", spec := "fnExactStepsOk", apart := false, narrowed := true }
def FnExactStepsOkUptoSaid : Prop := fnExactStepsOkUptoRow.holds Try.pinned (OpenSpec.upto fnExactStepsOkSpec)

/-- 'laws.FnExactStepsEqual', WHERE WHAT IT READS IS OF BULK AT MOST 1048576: true; the input reads as it did. -/
def fnExactStepsEqualUptoRow : OpenClaim := { program := "ytejimjpflbhhnaa", sum := "0a383416fd9e41d019d284d60cc5be589e3d8e994447081cf1845326d2ba69b5", func := "loop.example/g00806/laws.FnExactStepsEqual", spec := "fnExactStepsEqual", apart := false, narrowed := true }
def FnExactStepsEqualUptoSaid : Prop := fnExactStepsEqualUptoRow.holds Try.pinned (OpenSpec.upto fnExactStepsEqualSpec)

/-- 'laws.FnExactCapacityAt', WHERE WHAT IT READS IS OF BULK AT MOST 1048576: true; the input reads as it did. -/
def fnExactCapacityAtUptoRow : OpenClaim := { program := "ytejimjpflbhhnaa", sum := "0a383416fd9e41d019d284d60cc5be589e3d8e994447081cf1845326d2ba69b5", func := "loop.example/g00806/laws.FnExactCapacityAt", spec := "fnExactCapacityAt", apart := false, narrowed := true }
def FnExactCapacityAtUptoSaid : Prop := fnExactCapacityAtUptoRow.holds Try.pinned (OpenSpec.upto fnExactCapacityAtSpec)

/-- 'laws.FnExactTotalCapacity', WHERE WHAT IT READS IS OF BULK AT MOST 1048576: true; the input reads as it did. -/
def fnExactTotalCapacityUptoRow : OpenClaim := { program := "ytejimjpflbhhnaa", sum := "0a383416fd9e41d019d284d60cc5be589e3d8e994447081cf1845326d2ba69b5", func := "loop.example/g00806/laws.FnExactTotalCapacity", spec := "fnExactTotalCapacity", apart := false, narrowed := true }
def FnExactTotalCapacityUptoSaid : Prop := fnExactTotalCapacityUptoRow.holds Try.pinned (OpenSpec.upto fnExactTotalCapacitySpec)

/-- 'laws.FnExactMinCapacity', WHERE WHAT IT READS IS OF BULK AT MOST 1048576: true; the input reads as it did. -/
def fnExactMinCapacityUptoRow : OpenClaim := { program := "ytejimjpflbhhnaa", sum := "0a383416fd9e41d019d284d60cc5be589e3d8e994447081cf1845326d2ba69b5", func := "loop.example/g00806/laws.FnExactMinCapacity", spec := "fnExactMinCapacity", apart := false, narrowed := true }
def FnExactMinCapacityUptoSaid : Prop := fnExactMinCapacityUptoRow.holds Try.pinned (OpenSpec.upto fnExactMinCapacitySpec)

/-- 'laws.FnExactMergeSteps', WHERE WHAT IT READS IS OF BULK AT MOST 1048576: true; the input reads as it did. -/
def fnExactMergeStepsUptoRow : OpenClaim := { program := "ytejimjpflbhhnaa", sum := "0a383416fd9e41d019d284d60cc5be589e3d8e994447081cf1845326d2ba69b5", func := "loop.example/g00806/laws.FnExactMergeSteps", spec := "fnExactMergeSteps", apart := false, narrowed := true }
def FnExactMergeStepsUptoSaid : Prop := fnExactMergeStepsUptoRow.holds Try.pinned (OpenSpec.upto fnExactMergeStepsSpec)

/-- 'laws.FnExactReduceCapacity', WHERE WHAT IT READS IS OF BULK AT MOST 1048576: true; the input reads as it did. -/
def fnExactReduceCapacityUptoRow : OpenClaim := { program := "ytejimjpflbhhnaa", sum := "0a383416fd9e41d019d284d60cc5be589e3d8e994447081cf1845326d2ba69b5", func := "loop.example/g00806/laws.FnExactReduceCapacity", spec := "fnExactReduceCapacity", apart := false, narrowed := true }
def FnExactReduceCapacityUptoSaid : Prop := fnExactReduceCapacityUptoRow.holds Try.pinned (OpenSpec.upto fnExactReduceCapacitySpec)

/-- 'laws.FnExactModeOk', WHERE WHAT IT READS IS OF BULK AT MOST 1048576: true; the input reads as it did. -/
def fnExactModeOkUptoRow : OpenClaim := { program := "ytejimjpflbhhnaa", sum := "0a383416fd9e41d019d284d60cc5be589e3d8e994447081cf1845326d2ba69b5", func := "loop.example/g00806/laws.FnExactModeOk", spec := "fnExactModeOk", apart := false, narrowed := true }
def FnExactModeOkUptoSaid : Prop := fnExactModeOkUptoRow.holds Try.pinned (OpenSpec.upto fnExactModeOkSpec)

/-- 'laws.FnExactMaxDuration', WHERE WHAT IT READS IS OF BULK AT MOST 1048576: true; the input reads as it did. -/
def fnExactMaxDurationUptoRow : OpenClaim := { program := "ytejimjpflbhhnaa", sum := "0a383416fd9e41d019d284d60cc5be589e3d8e994447081cf1845326d2ba69b5", func := "loop.example/g00806/laws.FnExactMaxDuration", spec := "fnExactMaxDuration", apart := false, narrowed := true }
def FnExactMaxDurationUptoSaid : Prop := fnExactMaxDurationUptoRow.holds Try.pinned (OpenSpec.upto fnExactMaxDurationSpec)

/-- 'laws.FnExactMinDuration', WHERE WHAT IT READS IS OF BULK AT MOST 1048576: true; the input reads as it did. -/
def fnExactMinDurationUptoRow : OpenClaim := { program := "ytejimjpflbhhnaa", sum := "0a383416fd9e41d019d284d60cc5be589e3d8e994447081cf1845326d2ba69b5", func := "loop.example/g00806/laws.FnExactMinDuration", spec := "fnExactMinDuration", apart := false, narrowed := true }
def FnExactMinDurationUptoSaid : Prop := fnExactMinDurationUptoRow.holds Try.pinned (OpenSpec.upto fnExactMinDurationSpec)

/-- 'laws.FnExactActivityEqual', WHERE WHAT IT READS IS OF BULK AT MOST 1048576: true; the input reads as it did. -/
def fnExactActivityEqualUptoRow : OpenClaim := { program := "ytejimjpflbhhnaa", sum := "0a383416fd9e41d019d284d60cc5be589e3d8e994447081cf1845326d2ba69b5", func := "loop.example/g00806/laws.FnExactActivityEqual", spec := "fnExactActivityEqual", unfollowed := true, recurses := true, apart := false, narrowed := true }
def FnExactActivityEqualUptoSaid : Prop := fnExactActivityEqualUptoRow.holds Try.pinned (OpenSpec.upto fnExactActivityEqualSpec)

/-- 'laws.FnExactResourceOk', WHERE WHAT IT READS IS OF BULK AT MOST 1048576: true; the input reads as it did. -/
def fnExactResourceOkUptoRow : OpenClaim := { program := "ytejimjpflbhhnaa", sum := "0a383416fd9e41d019d284d60cc5be589e3d8e994447081cf1845326d2ba69b5", func := "loop.example/g00806/laws.FnExactResourceOk", spec := "fnExactResourceOk", apart := false, narrowed := true }
def FnExactResourceOkUptoSaid : Prop := fnExactResourceOkUptoRow.holds Try.pinned (OpenSpec.upto fnExactResourceOkSpec)

end Rows
end Go.Proofs.Ytejimjpflbhhnaa
