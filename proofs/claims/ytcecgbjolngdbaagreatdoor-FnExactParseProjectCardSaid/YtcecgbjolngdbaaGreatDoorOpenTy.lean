/- The laws' own types, as the form reads them. -/
import Derived.Test.YtcecgbjolngdbaaGreatDoorOpenMd
import Derived.Test.YtcecgbjolngdbaaGreatDoorChecked
namespace Go.Proofs.YtcecgbjolngdbaaGreatDoor
open Go.ChangeShapes Go.WideShapes Go.ChangeAt Go.RowKit Go.Deep

theorem Tryz.tyMode : TyMode Tryz.prog 185 3 := ⟨_, _, _, Tryz.underlying185, by kernel_rfl, by kernel_rfl, Tryz.underlying3, Tryz.underlying25, Tryz.underlying25, Tryz.underlying3, by kernel_rfl⟩
theorem Tryz.tyActivity : TyActivity Tryz.prog 120 185 3 := ⟨_, _, _, Tryz.underlying120, by kernel_rfl, by kernel_rfl, Tryz.underlying9, Tryz.underlying3, Tryz.underlying118, Tryz.tyMode⟩
theorem Tryz.tyStep : TyStep Tryz.prog 188 := ⟨_, _, Tryz.underlying188, by kernel_rfl, by kernel_rfl, Tryz.underlying3, Tryz.underlying3⟩
theorem Tryz.tyResource : TyResource Tryz.prog 124 188 25 3 := ⟨_, _, Tryz.underlying124, by kernel_rfl, by kernel_rfl, Tryz.underlying122, Tryz.underlying69, Tryz.tyStep, Tryz.underlying25, by kernel_rfl, Tryz.underlying3, by kernel_rfl⟩
theorem Tryz.tyLink : TyLink Tryz.prog 131 := ⟨_, _, _, _, Tryz.underlying131, by kernel_rfl, by kernel_rfl, Tryz.underlying3, Tryz.underlying3, Tryz.underlying4, Tryz.underlying3⟩
theorem Tryz.tyProject : TyProject Tryz.prog 27 120 185 131 124 188 25 3 := ⟨_, _, _, _, _, Tryz.underlying27, by kernel_rfl, by kernel_rfl, Tryz.underlying3, Tryz.underlying22, Tryz.underlying23, Tryz.underlying24, Tryz.underlying25, Tryz.tyActivity, Tryz.tyLink, Tryz.tyResource⟩
end Go.Proofs.YtcecgbjolngdbaaGreatDoor
