/- The laws' own types, as the form reads them. -/
import Derived.Test.YtejimjpflbhhnaaOpenMd
import Derived.Test.YtejimjpflbhhnaaChecked
namespace Go.Proofs.Ytejimjpflbhhnaa
open Go.ChangeShapes Go.WideShapes Go.ChangeAt Go.RowKit Go.Deep

theorem Try.tyMode : TyMode Try.prog 40 3 := ⟨_, _, _, Try.underlying40, by kernel_rfl, by kernel_rfl, Try.underlying3, Try.underlying38, Try.underlying38, Try.underlying3, by kernel_rfl⟩
theorem Try.tyActivity : TyActivity Try.prog 49 40 3 := ⟨_, _, _, Try.underlying49, by kernel_rfl, by kernel_rfl, Try.underlying9, Try.underlying3, Try.underlying47, Try.tyMode⟩
theorem Try.tyStep : TyStep Try.prog 75 := ⟨_, _, Try.underlying75, by kernel_rfl, by kernel_rfl, Try.underlying3, Try.underlying3⟩
theorem Try.tyResource : TyResource Try.prog 63 75 38 3 := ⟨_, _, Try.underlying63, by kernel_rfl, by kernel_rfl, Try.underlying22, Try.underlying61, Try.tyStep, Try.underlying38, by kernel_rfl, Try.underlying3, by kernel_rfl⟩
end Go.Proofs.Ytejimjpflbhhnaa
