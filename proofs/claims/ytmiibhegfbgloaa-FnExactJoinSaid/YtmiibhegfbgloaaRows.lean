/-
  No cell of these rows narrows 'for every input' (looked for: loops, veiled, ifaces, maps, wideKeys, modest, calm, conditions, laid).
  DERIVED. THE GIVEN ROWS OF THIS SEAT. 12 by the template 'for every input the law returns true; each argument reads behind the call as it read before'; 0 by the template 'total and deterministic' (their statements: YtmiibhegfbgloaaTotals.lean).
  GIVEN WITH THE SEED: the statements are not yours to turn. If you find one false, say at which input.
  Laid BY PROGRAM, IN A SANDBOX (cutbox-rows.mjs): the forced cells as the released guide's own fill.sh prints them over the translation 55dce877a25fff89… (all of the seat's roots in one cut). By AI agents, Wed Nov 11 2026. No macro, syntax, notation, axiom, sorry.
-/
import Derived.Test.YtmiibhegfbgloaaChecked
import GoSem.Claim
import GoSem.ClaimJoined
import GoSem.ClaimMapViews
import Derived.JoinedTies
import Derived.KernelRfl
namespace Go.Proofs.Ytmiibhegfbgloaa
/- THE CELL 'sum', in the pinned program and in every row, IS THE sha256 OF THE DUMP (.gsa) THAT YtmiibhegfbgloaaProg.lean LOADS. Nothing in Lean hashes anything: it is a label: what it is worth is what the hold of that sum in a sandbox is worth. -/
noncomputable def Try.pinned : Pinned := { name := "ytmiibhegfbgloaa", sum := "55dce877a25fff894e59bf67af99032302ef9ae75053b9ff156f663a671cfb70", checked := Try.checked }
namespace Rows
def none {H : Type} : Left H := { results := [], args := [] }

/-- 'laws.FnExactConstants': WHATEVER THE INPUT: true; the input reads as it did. -/
def fnExactConstantsSpec : ChangeSpec := { name := "fnExactConstants", fn := fun _ => fun
  | [] => { results := [.lit (.bool true)], args := [] }
  | _ => none }
def fnExactConstantsRow : OpenClaim := { program := "ytmiibhegfbgloaa", sum := "55dce877a25fff894e59bf67af99032302ef9ae75053b9ff156f663a671cfb70", func := "loop.example/g00806/laws.FnExactConstants", spec := "fnExactConstants", apart := false }
def FnExactConstantsSaid : Prop := fnExactConstantsRow.holds Try.pinned (OpenSpec.ofChange fnExactConstantsSpec)

/-- ITS FALSE NEIGHBOUR: 'it returns false'. Refute it at one input. -/
def fnExactConstantsWrong : ChangeSpec := { name := "fnExactConstants", fn := fun _ => fun
  | [] => { results := [.lit (.bool false)], args := [] }
  | _ => none }
def FnExactConstantsWrongFalsely : Prop := fnExactConstantsRow.holds Try.pinned (OpenSpec.ofChange fnExactConstantsWrong)

/-- 'laws.FnExactIsName': WHATEVER THE INPUT: true; the input reads as it did. -/
def fnExactIsNameSpec : ChangeSpec := { name := "fnExactIsName", fn := fun _ => fun
  | [d] => { results := [.lit (.bool true)], args := [d] }
  | _ => none }
def fnExactIsNameRow : OpenClaim := { program := "ytmiibhegfbgloaa", sum := "55dce877a25fff894e59bf67af99032302ef9ae75053b9ff156f663a671cfb70", func := "loop.example/g00806/laws.FnExactIsName", spec := "fnExactIsName", apart := false }
def FnExactIsNameSaid : Prop := fnExactIsNameRow.holds Try.pinned (OpenSpec.ofChange fnExactIsNameSpec)

/-- ITS FALSE NEIGHBOUR: 'it returns false'. Refute it at one input. -/
def fnExactIsNameWrong : ChangeSpec := { name := "fnExactIsName", fn := fun _ => fun
  | [d] => { results := [.lit (.bool false)], args := [d] }
  | _ => none }
def FnExactIsNameWrongFalsely : Prop := fnExactIsNameRow.holds Try.pinned (OpenSpec.ofChange fnExactIsNameWrong)

/-- 'laws.FnExactSetOk': WHATEVER THE INPUT: true; the input reads as it did. -/
def fnExactSetOkSpec : ChangeSpec := { name := "fnExactSetOk", fn := fun _ => fun
  | [d] => { results := [.lit (.bool true)], args := [d] }
  | _ => none }
def fnExactSetOkRow : OpenClaim := { program := "ytmiibhegfbgloaa", sum := "55dce877a25fff894e59bf67af99032302ef9ae75053b9ff156f663a671cfb70", func := "loop.example/g00806/laws.FnExactSetOk", spec := "fnExactSetOk", apart := false }
def FnExactSetOkSaid : Prop := fnExactSetOkRow.holds Try.pinned (OpenSpec.ofChange fnExactSetOkSpec)

/-- ITS FALSE NEIGHBOUR: 'it returns false'. Refute it at one input. -/
def fnExactSetOkWrong : ChangeSpec := { name := "fnExactSetOk", fn := fun _ => fun
  | [d] => { results := [.lit (.bool false)], args := [d] }
  | _ => none }
def FnExactSetOkWrongFalsely : Prop := fnExactSetOkRow.holds Try.pinned (OpenSpec.ofChange fnExactSetOkWrong)

/-- 'laws.FnExactSetHas': WHATEVER THE INPUT: true; the input reads as it did. -/
def fnExactSetHasSpec : ChangeSpec := { name := "fnExactSetHas", fn := fun _ => fun
  | [d1, d2] => { results := [.lit (.bool true)], args := [d1, d2] }
  | _ => none }
def fnExactSetHasRow : OpenClaim := { program := "ytmiibhegfbgloaa", sum := "55dce877a25fff894e59bf67af99032302ef9ae75053b9ff156f663a671cfb70", func := "loop.example/g00806/laws.FnExactSetHas", spec := "fnExactSetHas", apart := false }
def FnExactSetHasSaid : Prop := fnExactSetHasRow.holds Try.pinned (OpenSpec.ofChange fnExactSetHasSpec)

/-- ITS FALSE NEIGHBOUR: 'it returns false'. Refute it at one input. -/
def fnExactSetHasWrong : ChangeSpec := { name := "fnExactSetHas", fn := fun _ => fun
  | [d1, d2] => { results := [.lit (.bool false)], args := [d1, d2] }
  | _ => none }
def FnExactSetHasWrongFalsely : Prop := fnExactSetHasRow.holds Try.pinned (OpenSpec.ofChange fnExactSetHasWrong)

/-- 'laws.FnExactSetEqual': WHATEVER THE INPUT: true; the input reads as it did. -/
def fnExactSetEqualSpec : ChangeSpec := { name := "fnExactSetEqual", fn := fun _ => fun
  | [d1, d2] => { results := [.lit (.bool true)], args := [d1, d2] }
  | _ => none }
def fnExactSetEqualRow : OpenClaim := { program := "ytmiibhegfbgloaa", sum := "55dce877a25fff894e59bf67af99032302ef9ae75053b9ff156f663a671cfb70", func := "loop.example/g00806/laws.FnExactSetEqual", spec := "fnExactSetEqual", apart := false }
def FnExactSetEqualSaid : Prop := fnExactSetEqualRow.holds Try.pinned (OpenSpec.ofChange fnExactSetEqualSpec)

/-- ITS FALSE NEIGHBOUR: 'it returns false'. Refute it at one input. -/
def fnExactSetEqualWrong : ChangeSpec := { name := "fnExactSetEqual", fn := fun _ => fun
  | [d1, d2] => { results := [.lit (.bool false)], args := [d1, d2] }
  | _ => none }
def FnExactSetEqualWrongFalsely : Prop := fnExactSetEqualRow.holds Try.pinned (OpenSpec.ofChange fnExactSetEqualWrong)

/-- 'laws.FnExactClampedSum': WHATEVER THE INPUT: true; the input reads as it did. -/
def fnExactClampedSumSpec : ChangeSpec := { name := "fnExactClampedSum", fn := fun _ => fun
  | [d] => { results := [.lit (.bool true)], args := [d] }
  | _ => none }
def fnExactClampedSumRow : OpenClaim := { program := "ytmiibhegfbgloaa", sum := "55dce877a25fff894e59bf67af99032302ef9ae75053b9ff156f663a671cfb70", func := "loop.example/g00806/laws.FnExactClampedSum", spec := "fnExactClampedSum", apart := false }
def FnExactClampedSumSaid : Prop := fnExactClampedSumRow.holds Try.pinned (OpenSpec.ofChange fnExactClampedSumSpec)

/-- ITS FALSE NEIGHBOUR: 'it returns false'. Refute it at one input. -/
def fnExactClampedSumWrong : ChangeSpec := { name := "fnExactClampedSum", fn := fun _ => fun
  | [d] => { results := [.lit (.bool false)], args := [d] }
  | _ => none }
def FnExactClampedSumWrongFalsely : Prop := fnExactClampedSumRow.holds Try.pinned (OpenSpec.ofChange fnExactClampedSumWrong)

/-- 'laws.FnExactIntRange': WHATEVER THE INPUT: true; the input reads as it did. -/
def fnExactIntRangeSpec : ChangeSpec := { name := "fnExactIntRange", fn := fun _ => fun
  | [d] => { results := [.lit (.bool true)], args := [d] }
  | _ => none }
def fnExactIntRangeRow : OpenClaim := { program := "ytmiibhegfbgloaa", sum := "55dce877a25fff894e59bf67af99032302ef9ae75053b9ff156f663a671cfb70", func := "loop.example/g00806/laws.FnExactIntRange", spec := "fnExactIntRange", apart := false }
def FnExactIntRangeSaid : Prop := fnExactIntRangeRow.holds Try.pinned (OpenSpec.ofChange fnExactIntRangeSpec)

/-- ITS FALSE NEIGHBOUR: 'it returns false'. Refute it at one input. -/
def fnExactIntRangeWrong : ChangeSpec := { name := "fnExactIntRange", fn := fun _ => fun
  | [d] => { results := [.lit (.bool false)], args := [d] }
  | _ => none }
def FnExactIntRangeWrongFalsely : Prop := fnExactIntRangeRow.holds Try.pinned (OpenSpec.ofChange fnExactIntRangeWrong)

/-- 'laws.FnExactSetRemove': WHATEVER THE INPUT: true; the input reads as it did. -/
def fnExactSetRemoveSpec : ChangeSpec := { name := "fnExactSetRemove", fn := fun _ => fun
  | [d1, d2] => { results := [.lit (.bool true)], args := [d1, d2] }
  | _ => none }
def fnExactSetRemoveRow : OpenClaim := { program := "ytmiibhegfbgloaa", sum := "55dce877a25fff894e59bf67af99032302ef9ae75053b9ff156f663a671cfb70", func := "loop.example/g00806/laws.FnExactSetRemove", spec := "fnExactSetRemove", unfollowed := true, recurses := true, apart := false }
def FnExactSetRemoveSaid : Prop := fnExactSetRemoveRow.holds Try.pinned (OpenSpec.ofChange fnExactSetRemoveSpec)

/-- ITS FALSE NEIGHBOUR: 'it returns false'. Refute it at one input. -/
def fnExactSetRemoveWrong : ChangeSpec := { name := "fnExactSetRemove", fn := fun _ => fun
  | [d1, d2] => { results := [.lit (.bool false)], args := [d1, d2] }
  | _ => none }
def FnExactSetRemoveWrongFalsely : Prop := fnExactSetRemoveRow.holds Try.pinned (OpenSpec.ofChange fnExactSetRemoveWrong)

/-- 'laws.FnExactSetSubset': WHATEVER THE INPUT: true; the input reads as it did. -/
def fnExactSetSubsetSpec : ChangeSpec := { name := "fnExactSetSubset", fn := fun _ => fun
  | [d1, d2] => { results := [.lit (.bool true)], args := [d1, d2] }
  | _ => none }
def fnExactSetSubsetRow : OpenClaim := { program := "ytmiibhegfbgloaa", sum := "55dce877a25fff894e59bf67af99032302ef9ae75053b9ff156f663a671cfb70", func := "loop.example/g00806/laws.FnExactSetSubset", spec := "fnExactSetSubset", apart := false }
def FnExactSetSubsetSaid : Prop := fnExactSetSubsetRow.holds Try.pinned (OpenSpec.ofChange fnExactSetSubsetSpec)

/-- ITS FALSE NEIGHBOUR: 'it returns false'. Refute it at one input. -/
def fnExactSetSubsetWrong : ChangeSpec := { name := "fnExactSetSubset", fn := fun _ => fun
  | [d1, d2] => { results := [.lit (.bool false)], args := [d1, d2] }
  | _ => none }
def FnExactSetSubsetWrongFalsely : Prop := fnExactSetSubsetRow.holds Try.pinned (OpenSpec.ofChange fnExactSetSubsetWrong)

/-- 'laws.FnExactSplitAny': WHATEVER THE INPUT: true; the input reads as it did. -/
def fnExactSplitAnySpec : ChangeSpec := { name := "fnExactSplitAny", fn := fun _ => fun
  | [d1, d2] => { results := [.lit (.bool true)], args := [d1, d2] }
  | _ => none }
def fnExactSplitAnyRow : OpenClaim := { program := "ytmiibhegfbgloaa", sum := "55dce877a25fff894e59bf67af99032302ef9ae75053b9ff156f663a671cfb70", func := "loop.example/g00806/laws.FnExactSplitAny", spec := "fnExactSplitAny", inPlace := ["internal/bytealg.IndexByteString"], apart := false }
def FnExactSplitAnySaid : Prop := fnExactSplitAnyRow.holds Try.pinned (OpenSpec.ofChange fnExactSplitAnySpec)

/-- ITS FALSE NEIGHBOUR: 'it returns false'. Refute it at one input. -/
def fnExactSplitAnyWrong : ChangeSpec := { name := "fnExactSplitAny", fn := fun _ => fun
  | [d1, d2] => { results := [.lit (.bool false)], args := [d1, d2] }
  | _ => none }
def FnExactSplitAnyWrongFalsely : Prop := fnExactSplitAnyRow.holds Try.pinned (OpenSpec.ofChange fnExactSplitAnyWrong)

/-- 'laws.FnExactSplitLines': WHATEVER THE INPUT: true; the input reads as it did. -/
def fnExactSplitLinesSpec : ChangeSpec := { name := "fnExactSplitLines", fn := fun _ => fun
  | [d] => { results := [.lit (.bool true)], args := [d] }
  | _ => none }
def fnExactSplitLinesRow : OpenClaim := { program := "ytmiibhegfbgloaa", sum := "55dce877a25fff894e59bf67af99032302ef9ae75053b9ff156f663a671cfb70", func := "loop.example/g00806/laws.FnExactSplitLines", spec := "fnExactSplitLines", inPlace := ["internal/bytealg.IndexByteString"], apart := false }
def FnExactSplitLinesSaid : Prop := fnExactSplitLinesRow.holds Try.pinned (OpenSpec.ofChange fnExactSplitLinesSpec)

/-- ITS FALSE NEIGHBOUR: 'it returns false'. Refute it at one input. -/
def fnExactSplitLinesWrong : ChangeSpec := { name := "fnExactSplitLines", fn := fun _ => fun
  | [d] => { results := [.lit (.bool false)], args := [d] }
  | _ => none }
def FnExactSplitLinesWrongFalsely : Prop := fnExactSplitLinesRow.holds Try.pinned (OpenSpec.ofChange fnExactSplitLinesWrong)

/-- 'laws.FnExactJoin': WHATEVER THE INPUT: true; the input reads as it did. -/
def fnExactJoinSpec : ChangeSpec := { name := "fnExactJoin", fn := fun _ => fun
  | [d1, d2] => { results := [.lit (.bool true)], args := [d1, d2] }
  | _ => none }
def fnExactJoinRow : OpenClaim := { program := "ytmiibhegfbgloaa", sum := "55dce877a25fff894e59bf67af99032302ef9ae75053b9ff156f663a671cfb70", func := "loop.example/g00806/laws.FnExactJoin", spec := "fnExactJoin", inPlace := ["internal/abi.NoEscape", "internal/bytealg.MakeNoZero"], apart := false }
def FnExactJoinSaid : Prop := fnExactJoinRow.holds Try.pinned (OpenSpec.ofChange fnExactJoinSpec)

/-- ITS FALSE NEIGHBOUR: 'it returns false'. Refute it at one input. -/
def fnExactJoinWrong : ChangeSpec := { name := "fnExactJoin", fn := fun _ => fun
  | [d1, d2] => { results := [.lit (.bool false)], args := [d1, d2] }
  | _ => none }
def FnExactJoinWrongFalsely : Prop := fnExactJoinRow.holds Try.pinned (OpenSpec.ofChange fnExactJoinWrong)

/- THE SECOND FORM. 'bulk': how many values and letters a reading holds, each counted each time it is reached (what is shared counts as often as it is met; a slice's spare places count too). A statement '..UptoSaid' is the law's where the arguments, and the package variables that the reading takes, are together of bulk at most 1048576: NARROWER than '..Said'. Prove '..Said' where nothing that the law and all that it calls make is longer than what came in: it says more and counts as full. Else prove '..UptoSaid'. A law counts once. -/
mutual
def uptoBulk {H : Type} : DataW H → Nat
  | .lit (.string bytes) => bytes.length + 1
  | .lit _ => 1
  | .nil => 1
  | .ptr d => uptoBulk d + 1
  | .slice elems spare => uptoBulkAll elems + uptoBulkAll spare + 1
  | .agg parts => uptoBulkAll parts + 1
  | .iface _ d => uptoBulk d + 1
  | .map entries => uptoBulkEntries entries + 1
  | .held _ => 1
def uptoBulkAll {H : Type} : List (DataW H) → Nat
  | [] => 0
  | d :: r => uptoBulk d + uptoBulkAll r
def uptoBulkEntries {H : Type} : List (Lit × DataW H) → Nat
  | [] => 0
  | x :: r => uptoBulkEntry x + uptoBulkEntries r
def uptoBulkEntry {H : Type} : Lit × DataW H → Nat
  | (.string bytes, d) => bytes.length + uptoBulk d + 1
  | (_, d) => uptoBulk d + 1
 end
def uptoSmall : (H : Type) → List (DataW H) → Bool := fun _ ds => decide (uptoBulkAll ds ≤ 1048576)
def OpenSpec.upto (s : _root_.Go.ChangeSpec) : _root_.Go.OpenSpec := { _root_.Go.OpenSpec.ofChange s with cond := some uptoSmall }

/-- 'laws.FnExactConstants', WHERE WHAT IT READS IS OF BULK AT MOST 1048576: true; the input reads as it did. -/
def fnExactConstantsUptoRow : OpenClaim := { program := "ytmiibhegfbgloaa", sum := "55dce877a25fff894e59bf67af99032302ef9ae75053b9ff156f663a671cfb70", func := "loop.example/g00806/laws.FnExactConstants", spec := "fnExactConstants", apart := false, narrowed := true }
def FnExactConstantsUptoSaid : Prop := fnExactConstantsUptoRow.holds Try.pinned (OpenSpec.upto fnExactConstantsSpec)

/-- 'laws.FnExactIsName', WHERE WHAT IT READS IS OF BULK AT MOST 1048576: true; the input reads as it did. -/
def fnExactIsNameUptoRow : OpenClaim := { program := "ytmiibhegfbgloaa", sum := "55dce877a25fff894e59bf67af99032302ef9ae75053b9ff156f663a671cfb70", func := "loop.example/g00806/laws.FnExactIsName", spec := "fnExactIsName", apart := false, narrowed := true }
def FnExactIsNameUptoSaid : Prop := fnExactIsNameUptoRow.holds Try.pinned (OpenSpec.upto fnExactIsNameSpec)

/-- 'laws.FnExactSetOk', WHERE WHAT IT READS IS OF BULK AT MOST 1048576: true; the input reads as it did. -/
def fnExactSetOkUptoRow : OpenClaim := { program := "ytmiibhegfbgloaa", sum := "55dce877a25fff894e59bf67af99032302ef9ae75053b9ff156f663a671cfb70", func := "loop.example/g00806/laws.FnExactSetOk", spec := "fnExactSetOk", apart := false, narrowed := true }
def FnExactSetOkUptoSaid : Prop := fnExactSetOkUptoRow.holds Try.pinned (OpenSpec.upto fnExactSetOkSpec)

/-- 'laws.FnExactSetHas', WHERE WHAT IT READS IS OF BULK AT MOST 1048576: true; the input reads as it did. -/
def fnExactSetHasUptoRow : OpenClaim := { program := "ytmiibhegfbgloaa", sum := "55dce877a25fff894e59bf67af99032302ef9ae75053b9ff156f663a671cfb70", func := "loop.example/g00806/laws.FnExactSetHas", spec := "fnExactSetHas", apart := false, narrowed := true }
def FnExactSetHasUptoSaid : Prop := fnExactSetHasUptoRow.holds Try.pinned (OpenSpec.upto fnExactSetHasSpec)

/-- 'laws.FnExactSetEqual', WHERE WHAT IT READS IS OF BULK AT MOST 1048576: true; the input reads as it did. -/
def fnExactSetEqualUptoRow : OpenClaim := { program := "ytmiibhegfbgloaa", sum := "55dce877a25fff894e59bf67af99032302ef9ae75053b9ff156f663a671cfb70", func := "loop.example/g00806/laws.FnExactSetEqual", spec := "fnExactSetEqual", apart := false, narrowed := true }
def FnExactSetEqualUptoSaid : Prop := fnExactSetEqualUptoRow.holds Try.pinned (OpenSpec.upto fnExactSetEqualSpec)

/-- 'laws.FnExactClampedSum', WHERE WHAT IT READS IS OF BULK AT MOST 1048576: true; the input reads as it did. -/
def fnExactClampedSumUptoRow : OpenClaim := { program := "ytmiibhegfbgloaa", sum := "55dce877a25fff894e59bf67af99032302ef9ae75053b9ff156f663a671cfb70", func := "loop.example/g00806/laws.FnExactClampedSum", spec := "fnExactClampedSum", apart := false, narrowed := true }
def FnExactClampedSumUptoSaid : Prop := fnExactClampedSumUptoRow.holds Try.pinned (OpenSpec.upto fnExactClampedSumSpec)

/-- 'laws.FnExactIntRange', WHERE WHAT IT READS IS OF BULK AT MOST 1048576: true; the input reads as it did. -/
def fnExactIntRangeUptoRow : OpenClaim := { program := "ytmiibhegfbgloaa", sum := "55dce877a25fff894e59bf67af99032302ef9ae75053b9ff156f663a671cfb70", func := "loop.example/g00806/laws.FnExactIntRange", spec := "fnExactIntRange", apart := false, narrowed := true }
def FnExactIntRangeUptoSaid : Prop := fnExactIntRangeUptoRow.holds Try.pinned (OpenSpec.upto fnExactIntRangeSpec)

/-- 'laws.FnExactSetRemove', WHERE WHAT IT READS IS OF BULK AT MOST 1048576: true; the input reads as it did. -/
def fnExactSetRemoveUptoRow : OpenClaim := { program := "ytmiibhegfbgloaa", sum := "55dce877a25fff894e59bf67af99032302ef9ae75053b9ff156f663a671cfb70", func := "loop.example/g00806/laws.FnExactSetRemove", spec := "fnExactSetRemove", unfollowed := true, recurses := true, apart := false, narrowed := true }
def FnExactSetRemoveUptoSaid : Prop := fnExactSetRemoveUptoRow.holds Try.pinned (OpenSpec.upto fnExactSetRemoveSpec)

/-- 'laws.FnExactSetSubset', WHERE WHAT IT READS IS OF BULK AT MOST 1048576: true; the input reads as it did. -/
def fnExactSetSubsetUptoRow : OpenClaim := { program := "ytmiibhegfbgloaa", sum := "55dce877a25fff894e59bf67af99032302ef9ae75053b9ff156f663a671cfb70", func := "loop.example/g00806/laws.FnExactSetSubset", spec := "fnExactSetSubset", apart := false, narrowed := true }
def FnExactSetSubsetUptoSaid : Prop := fnExactSetSubsetUptoRow.holds Try.pinned (OpenSpec.upto fnExactSetSubsetSpec)

/-- 'laws.FnExactSplitAny', WHERE WHAT IT READS IS OF BULK AT MOST 1048576: true; the input reads as it did. -/
def fnExactSplitAnyUptoRow : OpenClaim := { program := "ytmiibhegfbgloaa", sum := "55dce877a25fff894e59bf67af99032302ef9ae75053b9ff156f663a671cfb70", func := "loop.example/g00806/laws.FnExactSplitAny", spec := "fnExactSplitAny", inPlace := ["internal/bytealg.IndexByteString"], apart := false, narrowed := true }
def FnExactSplitAnyUptoSaid : Prop := fnExactSplitAnyUptoRow.holds Try.pinned (OpenSpec.upto fnExactSplitAnySpec)

/-- 'laws.FnExactSplitLines', WHERE WHAT IT READS IS OF BULK AT MOST 1048576: true; the input reads as it did. -/
def fnExactSplitLinesUptoRow : OpenClaim := { program := "ytmiibhegfbgloaa", sum := "55dce877a25fff894e59bf67af99032302ef9ae75053b9ff156f663a671cfb70", func := "loop.example/g00806/laws.FnExactSplitLines", spec := "fnExactSplitLines", inPlace := ["internal/bytealg.IndexByteString"], apart := false, narrowed := true }
def FnExactSplitLinesUptoSaid : Prop := fnExactSplitLinesUptoRow.holds Try.pinned (OpenSpec.upto fnExactSplitLinesSpec)

/-- 'laws.FnExactJoin', WHERE WHAT IT READS IS OF BULK AT MOST 1048576: true; the input reads as it did. -/
def fnExactJoinUptoRow : OpenClaim := { program := "ytmiibhegfbgloaa", sum := "55dce877a25fff894e59bf67af99032302ef9ae75053b9ff156f663a671cfb70", func := "loop.example/g00806/laws.FnExactJoin", spec := "fnExactJoin", inPlace := ["internal/abi.NoEscape", "internal/bytealg.MakeNoZero"], apart := false, narrowed := true }
def FnExactJoinUptoSaid : Prop := fnExactJoinUptoRow.holds Try.pinned (OpenSpec.upto fnExactJoinSpec)

end Rows
end Go.Proofs.Ytmiibhegfbgloaa
