/-
  No cell of these rows narrows 'for every input' (looked for: loops, veiled, ifaces, maps, wideKeys, modest, calm, conditions, laid).
  DERIVED. THE GIVEN ROWS OF THIS SEAT. 12 by the template 'for every input the law returns true; each argument reads behind the call as it read before'; 0 by the template 'total and deterministic' (their statements: YtfjohklcapekkaaTotals.lean).
  GIVEN WITH THE SEED: the statements are not yours to turn. If you find one false, say at which input.
  Laid BY PROGRAM, IN A SANDBOX (cutbox-rows.mjs): the forced cells as the released guide's own fill.sh prints them over the translation f4f177749f390348… (all of the seat's roots in one cut). By AI agents, Wed Nov 11 2026. No macro, syntax, notation, axiom, sorry.
-/
import Derived.Test.YtfjohklcapekkaaChecked
import GoSem.Claim
import GoSem.ClaimJoined
import GoSem.ClaimMapViews
import Derived.JoinedTies
import Derived.KernelRfl
namespace Go.Proofs.Ytfjohklcapekkaa
/- THE CELL 'sum', in the pinned program and in every row, IS THE sha256 OF THE DUMP (.gsa) THAT YtfjohklcapekkaaProg.lean LOADS. Nothing in Lean hashes anything: it is a label: what it is worth is what the hold of that sum in a sandbox is worth. -/
noncomputable def Try.pinned : Pinned := { name := "ytfjohklcapekkaa", sum := "f4f177749f39034848f5d714d61f1c268faf2ac03bd4527296133ef1fbbbc9a7", checked := Try.checked }
namespace Rows
def none {H : Type} : Left H := { results := [], args := [] }

/-- 'laws.FnExactModeIndexes': WHATEVER THE INPUT: true; the input reads as it did. -/
def fnExactModeIndexesSpec : ChangeSpec := { name := "fnExactModeIndexes", fn := fun _ => fun
  | [d] => { results := [.lit (.bool true)], args := [d] }
  | _ => none }
def fnExactModeIndexesRow : OpenClaim := { program := "ytfjohklcapekkaa", sum := "f4f177749f39034848f5d714d61f1c268faf2ac03bd4527296133ef1fbbbc9a7", func := "loop.example/g00806/laws.FnExactModeIndexes", spec := "fnExactModeIndexes", apart := false }
def FnExactModeIndexesSaid : Prop := fnExactModeIndexesRow.holds Try.pinned (OpenSpec.ofChange fnExactModeIndexesSpec)

/-- ITS FALSE NEIGHBOUR: 'it returns false'. Refute it at one input. -/
def fnExactModeIndexesWrong : ChangeSpec := { name := "fnExactModeIndexes", fn := fun _ => fun
  | [d] => { results := [.lit (.bool false)], args := [d] }
  | _ => none }
def FnExactModeIndexesWrongFalsely : Prop := fnExactModeIndexesRow.holds Try.pinned (OpenSpec.ofChange fnExactModeIndexesWrong)

/-- 'laws.FnExactActivityOk': WHATEVER THE INPUT: true; the input reads as it did. -/
def fnExactActivityOkSpec : ChangeSpec := { name := "fnExactActivityOk", fn := fun _ => fun
  | [d1, d2, d3] => { results := [.lit (.bool true)], args := [d1, d2, d3] }
  | _ => none }
def fnExactActivityOkRow : OpenClaim := { program := "ytfjohklcapekkaa", sum := "f4f177749f39034848f5d714d61f1c268faf2ac03bd4527296133ef1fbbbc9a7", func := "loop.example/g00806/laws.FnExactActivityOk", spec := "fnExactActivityOk", apart := false }
def FnExactActivityOkSaid : Prop := fnExactActivityOkRow.holds Try.pinned (OpenSpec.ofChange fnExactActivityOkSpec)

/-- ITS FALSE NEIGHBOUR: 'it returns false'. Refute it at one input. -/
def fnExactActivityOkWrong : ChangeSpec := { name := "fnExactActivityOk", fn := fun _ => fun
  | [d1, d2, d3] => { results := [.lit (.bool false)], args := [d1, d2, d3] }
  | _ => none }
def FnExactActivityOkWrongFalsely : Prop := fnExactActivityOkRow.holds Try.pinned (OpenSpec.ofChange fnExactActivityOkWrong)

/-- 'laws.FnExactMinConsumption': WHATEVER THE INPUT: true; the input reads as it did. -/
def fnExactMinConsumptionSpec : ChangeSpec := { name := "fnExactMinConsumption", fn := fun _ => fun
  | [d1, d2, d3] => { results := [.lit (.bool true)], args := [d1, d2, d3] }
  | _ => none }
def fnExactMinConsumptionRow : OpenClaim := { program := "ytfjohklcapekkaa", sum := "f4f177749f39034848f5d714d61f1c268faf2ac03bd4527296133ef1fbbbc9a7", func := "loop.example/g00806/laws.FnExactMinConsumption", spec := "fnExactMinConsumption", unfollowed := true, recurses := true, apart := false }
def FnExactMinConsumptionSaid : Prop := fnExactMinConsumptionRow.holds Try.pinned (OpenSpec.ofChange fnExactMinConsumptionSpec)

/-- ITS FALSE NEIGHBOUR: 'it returns false'. Refute it at one input. -/
def fnExactMinConsumptionWrong : ChangeSpec := { name := "fnExactMinConsumption", fn := fun _ => fun
  | [d1, d2, d3] => { results := [.lit (.bool false)], args := [d1, d2, d3] }
  | _ => none }
def FnExactMinConsumptionWrongFalsely : Prop := fnExactMinConsumptionRow.holds Try.pinned (OpenSpec.ofChange fnExactMinConsumptionWrong)

/-- 'laws.FnExactMinUsage': WHATEVER THE INPUT: true; the input reads as it did. -/
def fnExactMinUsageSpec : ChangeSpec := { name := "fnExactMinUsage", fn := fun _ => fun
  | [d1, d2, d3] => { results := [.lit (.bool true)], args := [d1, d2, d3] }
  | _ => none }
def fnExactMinUsageRow : OpenClaim := { program := "ytfjohklcapekkaa", sum := "f4f177749f39034848f5d714d61f1c268faf2ac03bd4527296133ef1fbbbc9a7", func := "loop.example/g00806/laws.FnExactMinUsage", spec := "fnExactMinUsage", unfollowed := true, recurses := true, apart := false }
def FnExactMinUsageSaid : Prop := fnExactMinUsageRow.holds Try.pinned (OpenSpec.ofChange fnExactMinUsageSpec)

/-- ITS FALSE NEIGHBOUR: 'it returns false'. Refute it at one input. -/
def fnExactMinUsageWrong : ChangeSpec := { name := "fnExactMinUsage", fn := fun _ => fun
  | [d1, d2, d3] => { results := [.lit (.bool false)], args := [d1, d2, d3] }
  | _ => none }
def FnExactMinUsageWrongFalsely : Prop := fnExactMinUsageRow.holds Try.pinned (OpenSpec.ofChange fnExactMinUsageWrong)

/-- 'laws.FnExactMinWork': WHATEVER THE INPUT: true; the input reads as it did. -/
def fnExactMinWorkSpec : ChangeSpec := { name := "fnExactMinWork", fn := fun _ => fun
  | [d1, d2, d3] => { results := [.lit (.bool true)], args := [d1, d2, d3] }
  | _ => none }
def fnExactMinWorkRow : OpenClaim := { program := "ytfjohklcapekkaa", sum := "f4f177749f39034848f5d714d61f1c268faf2ac03bd4527296133ef1fbbbc9a7", func := "loop.example/g00806/laws.FnExactMinWork", spec := "fnExactMinWork", unfollowed := true, recurses := true, apart := false }
def FnExactMinWorkSaid : Prop := fnExactMinWorkRow.holds Try.pinned (OpenSpec.ofChange fnExactMinWorkSpec)

/-- ITS FALSE NEIGHBOUR: 'it returns false'. Refute it at one input. -/
def fnExactMinWorkWrong : ChangeSpec := { name := "fnExactMinWork", fn := fun _ => fun
  | [d1, d2, d3] => { results := [.lit (.bool false)], args := [d1, d2, d3] }
  | _ => none }
def FnExactMinWorkWrongFalsely : Prop := fnExactMinWorkRow.holds Try.pinned (OpenSpec.ofChange fnExactMinWorkWrong)

/-- 'laws.FnExactIsMachine': WHATEVER THE INPUT: true; the input reads as it did. -/
def fnExactIsMachineSpec : ChangeSpec := { name := "fnExactIsMachine", fn := fun _ => fun
  | [d1, d2] => { results := [.lit (.bool true)], args := [d1, d2] }
  | _ => none }
def fnExactIsMachineRow : OpenClaim := { program := "ytfjohklcapekkaa", sum := "f4f177749f39034848f5d714d61f1c268faf2ac03bd4527296133ef1fbbbc9a7", func := "loop.example/g00806/laws.FnExactIsMachine", spec := "fnExactIsMachine", apart := false }
def FnExactIsMachineSaid : Prop := fnExactIsMachineRow.holds Try.pinned (OpenSpec.ofChange fnExactIsMachineSpec)

/-- ITS FALSE NEIGHBOUR: 'it returns false'. Refute it at one input. -/
def fnExactIsMachineWrong : ChangeSpec := { name := "fnExactIsMachine", fn := fun _ => fun
  | [d1, d2] => { results := [.lit (.bool false)], args := [d1, d2] }
  | _ => none }
def FnExactIsMachineWrongFalsely : Prop := fnExactIsMachineRow.holds Try.pinned (OpenSpec.ofChange fnExactIsMachineWrong)

/-- 'laws.FnExactActivityIndex': WHATEVER THE INPUT: true; the input reads as it did. -/
def fnExactActivityIndexSpec : ChangeSpec := { name := "fnExactActivityIndex", fn := fun _ => fun
  | [d1, d2] => { results := [.lit (.bool true)], args := [d1, d2] }
  | _ => none }
def fnExactActivityIndexRow : OpenClaim := { program := "ytfjohklcapekkaa", sum := "f4f177749f39034848f5d714d61f1c268faf2ac03bd4527296133ef1fbbbc9a7", func := "loop.example/g00806/laws.FnExactActivityIndex", spec := "fnExactActivityIndex", unfollowed := true, recurses := true, apart := false }
def FnExactActivityIndexSaid : Prop := fnExactActivityIndexRow.holds Try.pinned (OpenSpec.ofChange fnExactActivityIndexSpec)

/-- ITS FALSE NEIGHBOUR: 'it returns false'. Refute it at one input. -/
def fnExactActivityIndexWrong : ChangeSpec := { name := "fnExactActivityIndex", fn := fun _ => fun
  | [d1, d2] => { results := [.lit (.bool false)], args := [d1, d2] }
  | _ => none }
def FnExactActivityIndexWrongFalsely : Prop := fnExactActivityIndexRow.holds Try.pinned (OpenSpec.ofChange fnExactActivityIndexWrong)

/-- 'laws.FnExactProjectEqual': WHATEVER THE INPUT: true; the input reads as it did. -/
def fnExactProjectEqualSpec : ChangeSpec := { name := "fnExactProjectEqual", fn := fun _ => fun
  | [d1, d2] => { results := [.lit (.bool true)], args := [d1, d2] }
  | _ => none }
def fnExactProjectEqualRow : OpenClaim := { program := "ytfjohklcapekkaa", sum := "f4f177749f39034848f5d714d61f1c268faf2ac03bd4527296133ef1fbbbc9a7", func := "loop.example/g00806/laws.FnExactProjectEqual", spec := "fnExactProjectEqual", unfollowed := true, recurses := true, apart := false }
def FnExactProjectEqualSaid : Prop := fnExactProjectEqualRow.holds Try.pinned (OpenSpec.ofChange fnExactProjectEqualSpec)

/-- ITS FALSE NEIGHBOUR: 'it returns false'. Refute it at one input. -/
def fnExactProjectEqualWrong : ChangeSpec := { name := "fnExactProjectEqual", fn := fun _ => fun
  | [d1, d2] => { results := [.lit (.bool false)], args := [d1, d2] }
  | _ => none }
def FnExactProjectEqualWrongFalsely : Prop := fnExactProjectEqualRow.holds Try.pinned (OpenSpec.ofChange fnExactProjectEqualWrong)

/-- 'laws.FnExactProjectOk': WHATEVER THE INPUT: true; the input reads as it did. -/
def fnExactProjectOkSpec : ChangeSpec := { name := "fnExactProjectOk", fn := fun _ => fun
  | [d] => { results := [.lit (.bool true)], args := [d] }
  | _ => none }
def fnExactProjectOkRow : OpenClaim := { program := "ytfjohklcapekkaa", sum := "f4f177749f39034848f5d714d61f1c268faf2ac03bd4527296133ef1fbbbc9a7", func := "loop.example/g00806/laws.FnExactProjectOk", spec := "fnExactProjectOk", unfollowed := true, recurses := true, apart := false }
def FnExactProjectOkSaid : Prop := fnExactProjectOkRow.holds Try.pinned (OpenSpec.ofChange fnExactProjectOkSpec)

/-- ITS FALSE NEIGHBOUR: 'it returns false'. Refute it at one input. -/
def fnExactProjectOkWrong : ChangeSpec := { name := "fnExactProjectOk", fn := fun _ => fun
  | [d] => { results := [.lit (.bool false)], args := [d] }
  | _ => none }
def FnExactProjectOkWrongFalsely : Prop := fnExactProjectOkRow.holds Try.pinned (OpenSpec.ofChange fnExactProjectOkWrong)

/-- 'laws.FnExactSetupTime': WHATEVER THE INPUT: true; the input reads as it did. -/
def fnExactSetupTimeSpec : ChangeSpec := { name := "fnExactSetupTime", fn := fun _ => fun
  | [d1, d2, d3, d4] => { results := [.lit (.bool true)], args := [d1, d2, d3, d4] }
  | _ => none }
def fnExactSetupTimeRow : OpenClaim := { program := "ytfjohklcapekkaa", sum := "f4f177749f39034848f5d714d61f1c268faf2ac03bd4527296133ef1fbbbc9a7", func := "loop.example/g00806/laws.FnExactSetupTime", spec := "fnExactSetupTime", unfollowed := true, recurses := true, apart := false }
def FnExactSetupTimeSaid : Prop := fnExactSetupTimeRow.holds Try.pinned (OpenSpec.ofChange fnExactSetupTimeSpec)

/-- ITS FALSE NEIGHBOUR: 'it returns false'. Refute it at one input. -/
def fnExactSetupTimeWrong : ChangeSpec := { name := "fnExactSetupTime", fn := fun _ => fun
  | [d1, d2, d3, d4] => { results := [.lit (.bool false)], args := [d1, d2, d3, d4] }
  | _ => none }
def FnExactSetupTimeWrongFalsely : Prop := fnExactSetupTimeRow.holds Try.pinned (OpenSpec.ofChange fnExactSetupTimeWrong)

/-- 'laws.FnExactProjectStats': WHATEVER THE INPUT: true; the input reads as it did. -/
def fnExactProjectStatsSpec : ChangeSpec := { name := "fnExactProjectStats", fn := fun _ => fun
  | [d] => { results := [.lit (.bool true)], args := [d] }
  | _ => none }
def fnExactProjectStatsRow : OpenClaim := { program := "ytfjohklcapekkaa", sum := "f4f177749f39034848f5d714d61f1c268faf2ac03bd4527296133ef1fbbbc9a7", func := "loop.example/g00806/laws.FnExactProjectStats", spec := "fnExactProjectStats", unfollowed := true, recurses := true, apart := false }
def FnExactProjectStatsSaid : Prop := fnExactProjectStatsRow.holds Try.pinned (OpenSpec.ofChange fnExactProjectStatsSpec)

/-- ITS FALSE NEIGHBOUR: 'it returns false'. Refute it at one input. -/
def fnExactProjectStatsWrong : ChangeSpec := { name := "fnExactProjectStats", fn := fun _ => fun
  | [d] => { results := [.lit (.bool false)], args := [d] }
  | _ => none }
def FnExactProjectStatsWrongFalsely : Prop := fnExactProjectStatsRow.holds Try.pinned (OpenSpec.ofChange fnExactProjectStatsWrong)

/-- 'laws.FnExactUsers': WHATEVER THE INPUT: true; the input reads as it did. -/
def fnExactUsersSpec : ChangeSpec := { name := "fnExactUsers", fn := fun _ => fun
  | [d1, d2] => { results := [.lit (.bool true)], args := [d1, d2] }
  | _ => none }
def fnExactUsersRow : OpenClaim := { program := "ytfjohklcapekkaa", sum := "f4f177749f39034848f5d714d61f1c268faf2ac03bd4527296133ef1fbbbc9a7", func := "loop.example/g00806/laws.FnExactUsers", spec := "fnExactUsers", unfollowed := true, recurses := true, apart := false }
def FnExactUsersSaid : Prop := fnExactUsersRow.holds Try.pinned (OpenSpec.ofChange fnExactUsersSpec)

/-- ITS FALSE NEIGHBOUR: 'it returns false'. Refute it at one input. -/
def fnExactUsersWrong : ChangeSpec := { name := "fnExactUsers", fn := fun _ => fun
  | [d1, d2] => { results := [.lit (.bool false)], args := [d1, d2] }
  | _ => none }
def FnExactUsersWrongFalsely : Prop := fnExactUsersRow.holds Try.pinned (OpenSpec.ofChange fnExactUsersWrong)

/- THE SECOND FORM. 'bulk': how many values and letters a reading holds, each counted each time it is reached (what is shared counts as often as it is met; a slice's spare places count too). A statement '..UptoSaid' is the law's where the arguments, and the package variables that the reading takes, are together of bulk at most 1048576: NARROWER than '..Said'. Prove '..Said' where nothing that the law and all that it calls make is longer than what came in: it says more and counts as full. Else prove '..UptoSaid'. A law counts once. -/
mutual
def uptoBulk {H : Type} : DataW H → Nat
  | .lit (.string bytes) => bytes.length + 1
  | .lit _ => 1
  | .nil => 1
  | .ptr d => uptoBulk d + 1
  | .slice elems spare => uptoBulkAll elems + uptoBulkAll spare + 1
  | .agg parts => uptoBulkAll parts + 1
  | .iface _ d => uptoBulk d + 1
  | .map entries => uptoBulkEntries entries + 1
  | .held _ => 1
def uptoBulkAll {H : Type} : List (DataW H) → Nat
  | [] => 0
  | d :: r => uptoBulk d + uptoBulkAll r
def uptoBulkEntries {H : Type} : List (Lit × DataW H) → Nat
  | [] => 0
  | x :: r => uptoBulkEntry x + uptoBulkEntries r
def uptoBulkEntry {H : Type} : Lit × DataW H → Nat
  | (.string bytes, d) => bytes.length + uptoBulk d + 1
  | (_, d) => uptoBulk d + 1
 end
def uptoSmall : (H : Type) → List (DataW H) → Bool := fun _ ds => decide (uptoBulkAll ds ≤ 1048576)
def OpenSpec.upto (s : _root_.Go.ChangeSpec) : _root_.Go.OpenSpec := { _root_.Go.OpenSpec.ofChange s with cond := some uptoSmall }

/-- 'laws.FnExactModeIndexes', WHERE WHAT IT READS IS OF BULK AT MOST 1048576: true; the input reads as it did. -/
def fnExactModeIndexesUptoRow : OpenClaim := { program := "ytfjohklcapekkaa", sum := "f4f177749f39034848f5d714d61f1c268faf2ac03bd4527296133ef1fbbbc9a7", func := "loop.example/g00806/laws.FnExactModeIndexes", spec := "fnExactModeIndexes", apart := false, narrowed := true }
def FnExactModeIndexesUptoSaid : Prop := fnExactModeIndexesUptoRow.holds Try.pinned (OpenSpec.upto fnExactModeIndexesSpec)

/-- 'laws.FnExactActivityOk', WHERE WHAT IT READS IS OF BULK AT MOST 1048576: true; the input reads as it did. -/
def fnExactActivityOkUptoRow : OpenClaim := { program := "ytfjohklcapekkaa", sum := "f4f177749f39034848f5d714d61f1c268faf2ac03bd4527296133ef1fbbbc9a7", func := "loop.example/g00806/laws.FnExactActivityOk", spec := "fnExactActivityOk", apart := false, narrowed := true }
def FnExactActivityOkUptoSaid : Prop := fnExactActivityOkUptoRow.holds Try.pinned (OpenSpec.upto fnExactActivityOkSpec)

/-- 'laws.FnExactMinConsumption', WHERE WHAT IT READS IS OF BULK AT MOST 1048576: true; the input reads as it did. -/
def fnExactMinConsumptionUptoRow : OpenClaim := { program := "ytfjohklcapekkaa", sum := "f4f177749f39034848f5d714d61f1c268faf2ac03bd4527296133ef1fbbbc9a7", func := "loop.example/g00806/laws.FnExactMinConsumption", spec := "fnExactMinConsumption", unfollowed := true, recurses := true, apart := false, narrowed := true }
def FnExactMinConsumptionUptoSaid : Prop := fnExactMinConsumptionUptoRow.holds Try.pinned (OpenSpec.upto fnExactMinConsumptionSpec)

/-- 'laws.FnExactMinUsage', WHERE WHAT IT READS IS OF BULK AT MOST 1048576: true; the input reads as it did. -/
def fnExactMinUsageUptoRow : OpenClaim := { program := "ytfjohklcapekkaa", sum := "f4f177749f39034848f5d714d61f1c268faf2ac03bd4527296133ef1fbbbc9a7", func := "loop.example/g00806/laws.FnExactMinUsage", spec := "fnExactMinUsage", unfollowed := true, recurses := true, apart := false, narrowed := true }
def FnExactMinUsageUptoSaid : Prop := fnExactMinUsageUptoRow.holds Try.pinned (OpenSpec.upto fnExactMinUsageSpec)

/-- 'laws.FnExactMinWork', WHERE WHAT IT READS IS OF BULK AT MOST 1048576: true; the input reads as it did. -/
def fnExactMinWorkUptoRow : OpenClaim := { program := "ytfjohklcapekkaa", sum := "f4f177749f39034848f5d714d61f1c268faf2ac03bd4527296133ef1fbbbc9a7", func := "loop.example/g00806/laws.FnExactMinWork", spec := "fnExactMinWork", unfollowed := true, recurses := true, apart := false, narrowed := true }
def FnExactMinWorkUptoSaid : Prop := fnExactMinWorkUptoRow.holds Try.pinned (OpenSpec.upto fnExactMinWorkSpec)

/-- 'laws.FnExactIsMachine', WHERE WHAT IT READS IS OF BULK AT MOST 1048576: true; the input reads as it did. -/
def fnExactIsMachineUptoRow : OpenClaim := { program := "ytfjohklcapekkaa", sum := "f4f177749f39034848f5d714d61f1c268faf2ac03bd4527296133ef1fbbbc9a7", func := "loop.example/g00806/laws.FnExactIsMachine", spec := "fnExactIsMachine", apart := false, narrowed := true }
def FnExactIsMachineUptoSaid : Prop := fnExactIsMachineUptoRow.holds Try.pinned (OpenSpec.upto fnExactIsMachineSpec)

/-- 'laws.FnExactActivityIndex', WHERE WHAT IT READS IS OF BULK AT MOST 1048576: true; the input reads as it did. -/
def fnExactActivityIndexUptoRow : OpenClaim := { program := "ytfjohklcapekkaa", sum := "f4f177749f39034848f5d714d61f1c268faf2ac03bd4527296133ef1fbbbc9a7", func := "loop.example/g00806/laws.FnExactActivityIndex", spec := "fnExactActivityIndex", unfollowed := true, recurses := true, apart := false, narrowed := true }
def FnExactActivityIndexUptoSaid : Prop := fnExactActivityIndexUptoRow.holds Try.pinned (OpenSpec.upto fnExactActivityIndexSpec)

/-- 'laws.FnExactProjectEqual', WHERE WHAT IT READS IS OF BULK AT MOST 1048576: true; the input reads as it did. -/
def fnExactProjectEqualUptoRow : OpenClaim := { program := "ytfjohklcapekkaa", sum := "f4f177749f39034848f5d714d61f1c268faf2ac03bd4527296133ef1fbbbc9a7", func := "loop.example/g00806/laws.FnExactProjectEqual", spec := "fnExactProjectEqual", unfollowed := true, recurses := true, apart := false, narrowed := true }
def FnExactProjectEqualUptoSaid : Prop := fnExactProjectEqualUptoRow.holds Try.pinned (OpenSpec.upto fnExactProjectEqualSpec)

/-- 'laws.FnExactProjectOk', WHERE WHAT IT READS IS OF BULK AT MOST 1048576: true; the input reads as it did. -/
def fnExactProjectOkUptoRow : OpenClaim := { program := "ytfjohklcapekkaa", sum := "f4f177749f39034848f5d714d61f1c268faf2ac03bd4527296133ef1fbbbc9a7", func := "loop.example/g00806/laws.FnExactProjectOk", spec := "fnExactProjectOk", unfollowed := true, recurses := true, apart := false, narrowed := true }
def FnExactProjectOkUptoSaid : Prop := fnExactProjectOkUptoRow.holds Try.pinned (OpenSpec.upto fnExactProjectOkSpec)

/-- 'laws.FnExactSetupTime', WHERE WHAT IT READS IS OF BULK AT MOST 1048576: true; the input reads as it did. -/
def fnExactSetupTimeUptoRow : OpenClaim := { program := "ytfjohklcapekkaa", sum := "f4f177749f39034848f5d714d61f1c268faf2ac03bd4527296133ef1fbbbc9a7", func := "loop.example/g00806/laws.FnExactSetupTime", spec := "fnExactSetupTime", unfollowed := true, recurses := true, apart := false, narrowed := true }
def FnExactSetupTimeUptoSaid : Prop := fnExactSetupTimeUptoRow.holds Try.pinned (OpenSpec.upto fnExactSetupTimeSpec)

/-- 'laws.FnExactProjectStats', WHERE WHAT IT READS IS OF BULK AT MOST 1048576: true; the input reads as it did. -/
def fnExactProjectStatsUptoRow : OpenClaim := { program := "ytfjohklcapekkaa", sum := "f4f177749f39034848f5d714d61f1c268faf2ac03bd4527296133ef1fbbbc9a7", func := "loop.example/g00806/laws.FnExactProjectStats", spec := "fnExactProjectStats", unfollowed := true, recurses := true, apart := false, narrowed := true }
def FnExactProjectStatsUptoSaid : Prop := fnExactProjectStatsUptoRow.holds Try.pinned (OpenSpec.upto fnExactProjectStatsSpec)

/-- 'laws.FnExactUsers', WHERE WHAT IT READS IS OF BULK AT MOST 1048576: true; the input reads as it did. -/
def fnExactUsersUptoRow : OpenClaim := { program := "ytfjohklcapekkaa", sum := "f4f177749f39034848f5d714d61f1c268faf2ac03bd4527296133ef1fbbbc9a7", func := "loop.example/g00806/laws.FnExactUsers", spec := "fnExactUsers", unfollowed := true, recurses := true, apart := false, narrowed := true }
def FnExactUsersUptoSaid : Prop := fnExactUsersUptoRow.holds Try.pinned (OpenSpec.upto fnExactUsersSpec)

end Rows
end Go.Proofs.Ytfjohklcapekkaa
