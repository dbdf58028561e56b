/-
  No cell of these rows narrows 'for every input' (looked for: loops, veiled, ifaces, maps, wideKeys, modest, calm, conditions, laid).
  DERIVED. THE GIVEN ROWS OF THIS SEAT. 2 by the template 'for every input the law returns true; each argument reads behind the call as it read before'; 0 by the template 'total and deterministic' (their statements: YtebfijjcmmlbjaaTotals.lean).
  GIVEN WITH THE SEED: the statements are not yours to turn. If you find one false, say at which input.
  Laid BY PROGRAM, IN A SANDBOX (cutbox-rows.mjs): the forced cells as the released guide's own fill.sh prints them over the translation 28e86ed048aa52a6… (all of the seat's roots in one cut). By AI agents, Wed Nov 11 2026. No macro, syntax, notation, axiom, sorry.
-/
import Derived.Test.YtebfijjcmmlbjaaChecked
import GoSem.Claim
import GoSem.ClaimJoined
import GoSem.ClaimMapViews
import Derived.JoinedTies
import Derived.KernelRfl
namespace Go.Proofs.Ytebfijjcmmlbjaa
/- THE CELL 'sum', in the pinned program and in every row, IS THE sha256 OF THE DUMP (.gsa) THAT YtebfijjcmmlbjaaProg.lean LOADS. Nothing in Lean hashes anything: it is a label: what it is worth is what the hold of that sum in a sandbox is worth. -/
noncomputable def Try.pinned : Pinned := { name := "ytebfijjcmmlbjaa", sum := "28e86ed048aa52a6833d16b70f952e497c852f44c4d07ba6ab83ce553a49b491", checked := Try.checked }
namespace Rows
def none {H : Type} : Left H := { results := [], args := [] }

/-- 'laws.FnExactProjectEqual': WHATEVER THE INPUT: true; the input reads as it did. -/
def fnExactProjectEqualSpec : ChangeSpec := { name := "fnExactProjectEqual", fn := fun _ => fun
  | [d1, d2] => { results := [.lit (.bool true)], args := [d1, d2] }
  | _ => none }
def fnExactProjectEqualRow : OpenClaim := { program := "ytebfijjcmmlbjaa", sum := "28e86ed048aa52a6833d16b70f952e497c852f44c4d07ba6ab83ce553a49b491", func := "loop.example/g00806/laws.FnExactProjectEqual", spec := "fnExactProjectEqual", unfollowed := true, recurses := true, apart := false }
def FnExactProjectEqualSaid : Prop := fnExactProjectEqualRow.holds Try.pinned (OpenSpec.ofChange fnExactProjectEqualSpec)

/-- ITS FALSE NEIGHBOUR: 'it returns false'. Refute it at one input. -/
def fnExactProjectEqualWrong : ChangeSpec := { name := "fnExactProjectEqual", fn := fun _ => fun
  | [d1, d2] => { results := [.lit (.bool false)], args := [d1, d2] }
  | _ => none }
def FnExactProjectEqualWrongFalsely : Prop := fnExactProjectEqualRow.holds Try.pinned (OpenSpec.ofChange fnExactProjectEqualWrong)

/-- 'laws.FnExactUsers': WHATEVER THE INPUT: true; the input reads as it did. -/
def fnExactUsersSpec : ChangeSpec := { name := "fnExactUsers", fn := fun _ => fun
  | [d1, d2] => { results := [.lit (.bool true)], args := [d1, d2] }
  | _ => none }
def fnExactUsersRow : OpenClaim := { program := "ytebfijjcmmlbjaa", sum := "28e86ed048aa52a6833d16b70f952e497c852f44c4d07ba6ab83ce553a49b491", func := "loop.example/g00806/laws.FnExactUsers", spec := "fnExactUsers", unfollowed := true, recurses := true, apart := false }
def FnExactUsersSaid : Prop := fnExactUsersRow.holds Try.pinned (OpenSpec.ofChange fnExactUsersSpec)

/-- ITS FALSE NEIGHBOUR: 'it returns false'. Refute it at one input. -/
def fnExactUsersWrong : ChangeSpec := { name := "fnExactUsers", fn := fun _ => fun
  | [d1, d2] => { results := [.lit (.bool false)], args := [d1, d2] }
  | _ => none }
def FnExactUsersWrongFalsely : Prop := fnExactUsersRow.holds Try.pinned (OpenSpec.ofChange fnExactUsersWrong)

/- THE SECOND FORM. 'bulk': how many values and letters a reading holds, each counted each time it is reached (what is shared counts as often as it is met; a slice's spare places count too). A statement '..UptoSaid' is the law's where the arguments, and the package variables that the reading takes, are together of bulk at most 1048576: NARROWER than '..Said'. Prove '..Said' where nothing that the law and all that it calls make is longer than what came in: it says more and counts as full. Else prove '..UptoSaid'. A law counts once. -/
mutual
def uptoBulk {H : Type} : DataW H → Nat
  | .lit (.string bytes) => bytes.length + 1
  | .lit _ => 1
  | .nil => 1
  | .ptr d => uptoBulk d + 1
  | .slice elems spare => uptoBulkAll elems + uptoBulkAll spare + 1
  | .agg parts => uptoBulkAll parts + 1
  | .iface _ d => uptoBulk d + 1
  | .map entries => uptoBulkEntries entries + 1
  | .held _ => 1
def uptoBulkAll {H : Type} : List (DataW H) → Nat
  | [] => 0
  | d :: r => uptoBulk d + uptoBulkAll r
def uptoBulkEntries {H : Type} : List (Lit × DataW H) → Nat
  | [] => 0
  | x :: r => uptoBulkEntry x + uptoBulkEntries r
def uptoBulkEntry {H : Type} : Lit × DataW H → Nat
  | (.string bytes, d) => bytes.length + uptoBulk d + 1
  | (_, d) => uptoBulk d + 1
 end
def uptoSmall : (H : Type) → List (DataW H) → Bool := fun _ ds => decide (uptoBulkAll ds ≤ 1048576)
def OpenSpec.upto (s : _root_.Go.ChangeSpec) : _root_.Go.OpenSpec := { _root_.Go.OpenSpec.ofChange s with cond := some uptoSmall }

/-- 'laws.FnExactProjectEqual', WHERE WHAT IT READS IS OF BULK AT MOST 1048576: true; the input reads as it did. -/
def fnExactProjectEqualUptoRow : OpenClaim := { program := "ytebfijjcmmlbjaa", sum := "28e86ed048aa52a6833d16b70f952e497c852f44c4d07ba6ab83ce553a49b491", func := "loop.example/g00806/laws.FnExactProjectEqual", spec := "fnExactProjectEqual", unfollowed := true, recurses := true, apart := false, narrowed := true }
def FnExactProjectEqualUptoSaid : Prop := fnExactProjectEqualUptoRow.holds Try.pinned (OpenSpec.upto fnExactProjectEqualSpec)

/-- 'laws.FnExactUsers', WHERE WHAT IT READS IS OF BULK AT MOST 1048576: true; the input reads as it did. -/
def fnExactUsersUptoRow : OpenClaim := { program := "ytebfijjcmmlbjaa", sum := "28e86ed048aa52a6833d16b70f952e497c852f44c4d07ba6ab83ce553a49b491", func := "loop.example/g00806/laws.FnExactUsers", spec := "fnExactUsers", unfollowed := true, recurses := true, apart := false, narrowed := true }
def FnExactUsersUptoSaid : Prop := fnExactUsersUptoRow.holds Try.pinned (OpenSpec.upto fnExactUsersSpec)

end Rows
end Go.Proofs.Ytebfijjcmmlbjaa
