/- What the laws' own helpers do with rows of strings. -/
import Derived.Test.YtjmdlobhbabbcaaDoorKit
import Derived.Test.YtjmdlobhbabbcaaDoorPlain
import Derived.Test.YtjmdlobhbabbcaaDoorLaw
import Derived.Deep.RegionHeld3
namespace Go.Proofs.YtjmdlobhbabbcaaDoor
open Go.ChangeShapes Go.WideShapes Go.ChangeAt Go.RowKit
set_option linter.unusedVariables false

theorem Tryd.infoStrL : (Tryd.prog.info? 9).map (fun i => (i.zero, i.size, i.bytes)) = some (some (.string ByteArray.empty), 1, 16) := by kernel_rfl
/-- The decimal digits of a number that is not zero. -/
def decs (n : Nat) : List UInt8 := if h : n = 0 then [] else decs (n / 10) ++ [UInt8.ofNat (48 + n % 10)]
termination_by n
decreasing_by omega
theorem decs_zero : decs 0 = [] := by rw [decs]; rfl
theorem decs_pos {n : Nat} (h : n ≠ 0) : decs n = decs (n / 10) ++ [UInt8.ofNat (48 + n % 10)] := by rw [decs, dif_neg h]
def markTxt (k : Nat) : ByteArray := ⟨#[109]⟩ ++ ⟨(decs k).toArray⟩
end Go.Proofs.YtjmdlobhbabbcaaDoor
