/- The laws' own types, as the form reads them. -/
import Derived.Test.YtebfijjcmmlbjaaOpenMd
import Derived.Test.YtebfijjcmmlbjaaChecked
namespace Go.Proofs.Ytebfijjcmmlbjaa
open Go.ChangeShapes Go.WideShapes Go.ChangeAt Go.RowKit Go.Deep

theorem Try.tyMode : TyMode Try.prog 121 3 := ⟨_, _, _, Try.underlying121, by kernel_rfl, by kernel_rfl, Try.underlying3, Try.underlying25, Try.underlying25, Try.underlying3, by kernel_rfl⟩
theorem Try.tyActivity : TyActivity Try.prog 80 121 3 := ⟨_, _, _, Try.underlying80, by kernel_rfl, by kernel_rfl, Try.underlying9, Try.underlying3, Try.underlying78, Try.tyMode⟩
theorem Try.tyStep : TyStep Try.prog 124 := ⟨_, _, Try.underlying124, by kernel_rfl, by kernel_rfl, Try.underlying3, Try.underlying3⟩
theorem Try.tyResource : TyResource Try.prog 84 124 25 3 := ⟨_, _, Try.underlying84, by kernel_rfl, by kernel_rfl, Try.underlying82, Try.underlying52, Try.tyStep, Try.underlying25, by kernel_rfl, Try.underlying3, by kernel_rfl⟩
theorem Try.tyLink : TyLink Try.prog 89 := ⟨_, _, _, _, Try.underlying89, by kernel_rfl, by kernel_rfl, Try.underlying3, Try.underlying3, Try.underlying4, Try.underlying3⟩
theorem Try.tyProject : TyProject Try.prog 27 80 121 89 84 124 25 3 := ⟨_, _, _, _, _, Try.underlying27, by kernel_rfl, by kernel_rfl, Try.underlying3, Try.underlying22, Try.underlying23, Try.underlying24, Try.underlying25, Try.tyActivity, Try.tyLink, Try.tyResource⟩
end Go.Proofs.Ytebfijjcmmlbjaa
