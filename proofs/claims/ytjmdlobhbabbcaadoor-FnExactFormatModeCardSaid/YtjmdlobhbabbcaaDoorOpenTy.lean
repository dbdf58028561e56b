/- The laws' own types, as the form reads them. -/
import Derived.Test.YtjmdlobhbabbcaaDoorOpenMd
import Derived.Test.YtjmdlobhbabbcaaDoorChecked
namespace Go.Proofs.YtjmdlobhbabbcaaDoor
open Go.ChangeShapes Go.WideShapes Go.ChangeAt Go.RowKit Go.Deep

theorem Tryd.tyMode : TyMode Tryd.prog 37 3 := ⟨_, _, _, Tryd.underlying37, by kernel_rfl, by kernel_rfl, Tryd.underlying3, Tryd.underlying24, Tryd.underlying24, Tryd.underlying3, by kernel_rfl⟩
theorem Tryd.tyStep : TyStep Tryd.prog 74 := ⟨_, _, Tryd.underlying74, by kernel_rfl, by kernel_rfl, Tryd.underlying3, Tryd.underlying3⟩
end Go.Proofs.YtjmdlobhbabbcaaDoor
