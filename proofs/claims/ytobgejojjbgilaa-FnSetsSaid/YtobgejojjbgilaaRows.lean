/-
  No cell of these rows narrows 'for every input' (looked for: loops, veiled, ifaces, maps, wideKeys, modest, calm, conditions, laid).
  DERIVED. THE GIVEN ROWS OF THIS SEAT. 6 by the template 'for every input the law returns true; each argument reads behind the call as it read before'; 0 by the template 'total and deterministic' (their statements: YtobgejojjbgilaaTotals.lean).
  GIVEN WITH THE SEED: the statements are not yours to turn. If you find one false, say at which input.
  Laid BY PROGRAM, IN A SANDBOX (cutbox-rows.mjs): the forced cells as the released guide's own fill.sh prints them over the translation 7bad45e27b1ff991… (all of the seat's roots in one cut). By AI agents, Wed Nov 11 2026. No macro, syntax, notation, axiom, sorry.
-/
import Derived.Test.YtobgejojjbgilaaChecked
import GoSem.Claim
import GoSem.ClaimJoined
import GoSem.ClaimMapViews
import Derived.JoinedTies
import Derived.KernelRfl
namespace Go.Proofs.Ytobgejojjbgilaa
/- THE CELL 'sum', in the pinned program and in every row, IS THE sha256 OF THE DUMP (.gsa) THAT YtobgejojjbgilaaProg.lean LOADS. Nothing in Lean hashes anything: it is a label: what it is worth is what the hold of that sum in a sandbox is worth. -/
noncomputable def Try.pinned : Pinned := { name := "ytobgejojjbgilaa", sum := "7bad45e27b1ff9914caa199aef6d0c907dcf94de8d16e4c1a47d85d6c8f8a2ca", checked := Try.checked }
namespace Rows
def none {H : Type} : Left H := { results := [], args := [] }

/-- 'laws.FnExactSetOf': WHATEVER THE INPUT: true; the input reads as it did. -/
def fnExactSetOfSpec : ChangeSpec := { name := "fnExactSetOf", fn := fun _ => fun
  | [d] => { results := [.lit (.bool true)], args := [d] }
  | _ => none }
def fnExactSetOfRow : OpenClaim := { program := "ytobgejojjbgilaa", sum := "7bad45e27b1ff9914caa199aef6d0c907dcf94de8d16e4c1a47d85d6c8f8a2ca", func := "loop.example/g00806/laws.FnExactSetOf", spec := "fnExactSetOf", recurses := true, apart := false }
def FnExactSetOfSaid : Prop := fnExactSetOfRow.holds Try.pinned (OpenSpec.ofChange fnExactSetOfSpec)

/-- ITS FALSE NEIGHBOUR: 'it returns false'. Refute it at one input. -/
def fnExactSetOfWrong : ChangeSpec := { name := "fnExactSetOf", fn := fun _ => fun
  | [d] => { results := [.lit (.bool false)], args := [d] }
  | _ => none }
def FnExactSetOfWrongFalsely : Prop := fnExactSetOfRow.holds Try.pinned (OpenSpec.ofChange fnExactSetOfWrong)

/-- 'laws.FnExactSetAdd': WHATEVER THE INPUT: true; the input reads as it did. -/
def fnExactSetAddSpec : ChangeSpec := { name := "fnExactSetAdd", fn := fun _ => fun
  | [d1, d2] => { results := [.lit (.bool true)], args := [d1, d2] }
  | _ => none }
def fnExactSetAddRow : OpenClaim := { program := "ytobgejojjbgilaa", sum := "7bad45e27b1ff9914caa199aef6d0c907dcf94de8d16e4c1a47d85d6c8f8a2ca", func := "loop.example/g00806/laws.FnExactSetAdd", spec := "fnExactSetAdd", recurses := true, apart := false }
def FnExactSetAddSaid : Prop := fnExactSetAddRow.holds Try.pinned (OpenSpec.ofChange fnExactSetAddSpec)

/-- ITS FALSE NEIGHBOUR: 'it returns false'. Refute it at one input. -/
def fnExactSetAddWrong : ChangeSpec := { name := "fnExactSetAdd", fn := fun _ => fun
  | [d1, d2] => { results := [.lit (.bool false)], args := [d1, d2] }
  | _ => none }
def FnExactSetAddWrongFalsely : Prop := fnExactSetAddRow.holds Try.pinned (OpenSpec.ofChange fnExactSetAddWrong)

/-- 'laws.FnExactSetUnion': WHATEVER THE INPUT: true; the input reads as it did. -/
def fnExactSetUnionSpec : ChangeSpec := { name := "fnExactSetUnion", fn := fun _ => fun
  | [d1, d2] => { results := [.lit (.bool true)], args := [d1, d2] }
  | _ => none }
def fnExactSetUnionRow : OpenClaim := { program := "ytobgejojjbgilaa", sum := "7bad45e27b1ff9914caa199aef6d0c907dcf94de8d16e4c1a47d85d6c8f8a2ca", func := "loop.example/g00806/laws.FnExactSetUnion", spec := "fnExactSetUnion", recurses := true, apart := false }
def FnExactSetUnionSaid : Prop := fnExactSetUnionRow.holds Try.pinned (OpenSpec.ofChange fnExactSetUnionSpec)

/-- ITS FALSE NEIGHBOUR: 'it returns false'. Refute it at one input. -/
def fnExactSetUnionWrong : ChangeSpec := { name := "fnExactSetUnion", fn := fun _ => fun
  | [d1, d2] => { results := [.lit (.bool false)], args := [d1, d2] }
  | _ => none }
def FnExactSetUnionWrongFalsely : Prop := fnExactSetUnionRow.holds Try.pinned (OpenSpec.ofChange fnExactSetUnionWrong)

/-- 'laws.FnExactSetDifference': WHATEVER THE INPUT: true; the input reads as it did. -/
def fnExactSetDifferenceSpec : ChangeSpec := { name := "fnExactSetDifference", fn := fun _ => fun
  | [d1, d2] => { results := [.lit (.bool true)], args := [d1, d2] }
  | _ => none }
def fnExactSetDifferenceRow : OpenClaim := { program := "ytobgejojjbgilaa", sum := "7bad45e27b1ff9914caa199aef6d0c907dcf94de8d16e4c1a47d85d6c8f8a2ca", func := "loop.example/g00806/laws.FnExactSetDifference", spec := "fnExactSetDifference", unfollowed := true, recurses := true, apart := false }
def FnExactSetDifferenceSaid : Prop := fnExactSetDifferenceRow.holds Try.pinned (OpenSpec.ofChange fnExactSetDifferenceSpec)

/-- ITS FALSE NEIGHBOUR: 'it returns false'. Refute it at one input. -/
def fnExactSetDifferenceWrong : ChangeSpec := { name := "fnExactSetDifference", fn := fun _ => fun
  | [d1, d2] => { results := [.lit (.bool false)], args := [d1, d2] }
  | _ => none }
def FnExactSetDifferenceWrongFalsely : Prop := fnExactSetDifferenceRow.holds Try.pinned (OpenSpec.ofChange fnExactSetDifferenceWrong)

/-- 'laws.FnExactSetIntersection': WHATEVER THE INPUT: true; the input reads as it did. -/
def fnExactSetIntersectionSpec : ChangeSpec := { name := "fnExactSetIntersection", fn := fun _ => fun
  | [d1, d2] => { results := [.lit (.bool true)], args := [d1, d2] }
  | _ => none }
def fnExactSetIntersectionRow : OpenClaim := { program := "ytobgejojjbgilaa", sum := "7bad45e27b1ff9914caa199aef6d0c907dcf94de8d16e4c1a47d85d6c8f8a2ca", func := "loop.example/g00806/laws.FnExactSetIntersection", spec := "fnExactSetIntersection", unfollowed := true, recurses := true, apart := false }
def FnExactSetIntersectionSaid : Prop := fnExactSetIntersectionRow.holds Try.pinned (OpenSpec.ofChange fnExactSetIntersectionSpec)

/-- ITS FALSE NEIGHBOUR: 'it returns false'. Refute it at one input. -/
def fnExactSetIntersectionWrong : ChangeSpec := { name := "fnExactSetIntersection", fn := fun _ => fun
  | [d1, d2] => { results := [.lit (.bool false)], args := [d1, d2] }
  | _ => none }
def FnExactSetIntersectionWrongFalsely : Prop := fnExactSetIntersectionRow.holds Try.pinned (OpenSpec.ofChange fnExactSetIntersectionWrong)

/-- 'laws.FnSets': WHATEVER THE INPUT: true; the input reads as it did. -/
def fnSetsSpec : ChangeSpec := { name := "fnSets", fn := fun _ => fun
  | [d] => { results := [.lit (.bool true)], args := [d] }
  | _ => none }
def fnSetsRow : OpenClaim := { program := "ytobgejojjbgilaa", sum := "7bad45e27b1ff9914caa199aef6d0c907dcf94de8d16e4c1a47d85d6c8f8a2ca", func := "loop.example/g00806/laws.FnSets", spec := "fnSets", unfollowed := true, recurses := true, apart := false }
def FnSetsSaid : Prop := fnSetsRow.holds Try.pinned (OpenSpec.ofChange fnSetsSpec)

/-- ITS FALSE NEIGHBOUR: 'it returns false'. Refute it at one input. -/
def fnSetsWrong : ChangeSpec := { name := "fnSets", fn := fun _ => fun
  | [d] => { results := [.lit (.bool false)], args := [d] }
  | _ => none }
def FnSetsWrongFalsely : Prop := fnSetsRow.holds Try.pinned (OpenSpec.ofChange fnSetsWrong)

/- THE SECOND FORM. 'bulk': how many values and letters a reading holds, each counted each time it is reached (what is shared counts as often as it is met; a slice's spare places count too). A statement '..UptoSaid' is the law's where the arguments, and the package variables that the reading takes, are together of bulk at most 1048576: NARROWER than '..Said'. Prove '..Said' where nothing that the law and all that it calls make is longer than what came in: it says more and counts as full. Else prove '..UptoSaid'. A law counts once. -/
mutual
def uptoBulk {H : Type} : DataW H → Nat
  | .lit (.string bytes) => bytes.length + 1
  | .lit _ => 1
  | .nil => 1
  | .ptr d => uptoBulk d + 1
  | .slice elems spare => uptoBulkAll elems + uptoBulkAll spare + 1
  | .agg parts => uptoBulkAll parts + 1
  | .iface _ d => uptoBulk d + 1
  | .map entries => uptoBulkEntries entries + 1
  | .held _ => 1
def uptoBulkAll {H : Type} : List (DataW H) → Nat
  | [] => 0
  | d :: r => uptoBulk d + uptoBulkAll r
def uptoBulkEntries {H : Type} : List (Lit × DataW H) → Nat
  | [] => 0
  | x :: r => uptoBulkEntry x + uptoBulkEntries r
def uptoBulkEntry {H : Type} : Lit × DataW H → Nat
  | (.string bytes, d) => bytes.length + uptoBulk d + 1
  | (_, d) => uptoBulk d + 1
 end
def uptoSmall : (H : Type) → List (DataW H) → Bool := fun _ ds => decide (uptoBulkAll ds ≤ 1048576)
def OpenSpec.upto (s : _root_.Go.ChangeSpec) : _root_.Go.OpenSpec := { _root_.Go.OpenSpec.ofChange s with cond := some uptoSmall }

/-- 'laws.FnExactSetOf', WHERE WHAT IT READS IS OF BULK AT MOST 1048576: true; the input reads as it did. -/
def fnExactSetOfUptoRow : OpenClaim := { program := "ytobgejojjbgilaa", sum := "7bad45e27b1ff9914caa199aef6d0c907dcf94de8d16e4c1a47d85d6c8f8a2ca", func := "loop.example/g00806/laws.FnExactSetOf", spec := "fnExactSetOf", recurses := true, apart := false, narrowed := true }
def FnExactSetOfUptoSaid : Prop := fnExactSetOfUptoRow.holds Try.pinned (OpenSpec.upto fnExactSetOfSpec)

/-- 'laws.FnExactSetAdd', WHERE WHAT IT READS IS OF BULK AT MOST 1048576: true; the input reads as it did. -/
def fnExactSetAddUptoRow : OpenClaim := { program := "ytobgejojjbgilaa", sum := "7bad45e27b1ff9914caa199aef6d0c907dcf94de8d16e4c1a47d85d6c8f8a2ca", func := "loop.example/g00806/laws.FnExactSetAdd", spec := "fnExactSetAdd", recurses := true, apart := false, narrowed := true }
def FnExactSetAddUptoSaid : Prop := fnExactSetAddUptoRow.holds Try.pinned (OpenSpec.upto fnExactSetAddSpec)

/-- 'laws.FnExactSetUnion', WHERE WHAT IT READS IS OF BULK AT MOST 1048576: true; the input reads as it did. -/
def fnExactSetUnionUptoRow : OpenClaim := { program := "ytobgejojjbgilaa", sum := "7bad45e27b1ff9914caa199aef6d0c907dcf94de8d16e4c1a47d85d6c8f8a2ca", func := "loop.example/g00806/laws.FnExactSetUnion", spec := "fnExactSetUnion", recurses := true, apart := false, narrowed := true }
def FnExactSetUnionUptoSaid : Prop := fnExactSetUnionUptoRow.holds Try.pinned (OpenSpec.upto fnExactSetUnionSpec)

/-- 'laws.FnExactSetDifference', WHERE WHAT IT READS IS OF BULK AT MOST 1048576: true; the input reads as it did. -/
def fnExactSetDifferenceUptoRow : OpenClaim := { program := "ytobgejojjbgilaa", sum := "7bad45e27b1ff9914caa199aef6d0c907dcf94de8d16e4c1a47d85d6c8f8a2ca", func := "loop.example/g00806/laws.FnExactSetDifference", spec := "fnExactSetDifference", unfollowed := true, recurses := true, apart := false, narrowed := true }
def FnExactSetDifferenceUptoSaid : Prop := fnExactSetDifferenceUptoRow.holds Try.pinned (OpenSpec.upto fnExactSetDifferenceSpec)

/-- 'laws.FnExactSetIntersection', WHERE WHAT IT READS IS OF BULK AT MOST 1048576: true; the input reads as it did. -/
def fnExactSetIntersectionUptoRow : OpenClaim := { program := "ytobgejojjbgilaa", sum := "7bad45e27b1ff9914caa199aef6d0c907dcf94de8d16e4c1a47d85d6c8f8a2ca", func := "loop.example/g00806/laws.FnExactSetIntersection", spec := "fnExactSetIntersection", unfollowed := true, recurses := true, apart := false, narrowed := true }
def FnExactSetIntersectionUptoSaid : Prop := fnExactSetIntersectionUptoRow.holds Try.pinned (OpenSpec.upto fnExactSetIntersectionSpec)

/-- 'laws.FnSets', WHERE WHAT IT READS IS OF BULK AT MOST 1048576: true; the input reads as it did. -/
def fnSetsUptoRow : OpenClaim := { program := "ytobgejojjbgilaa", sum := "7bad45e27b1ff9914caa199aef6d0c907dcf94de8d16e4c1a47d85d6c8f8a2ca", func := "loop.example/g00806/laws.FnSets", spec := "fnSets", unfollowed := true, recurses := true, apart := false, narrowed := true }
def FnSetsUptoSaid : Prop := fnSetsUptoRow.holds Try.pinned (OpenSpec.upto fnSetsSpec)

end Rows
end Go.Proofs.Ytobgejojjbgilaa
