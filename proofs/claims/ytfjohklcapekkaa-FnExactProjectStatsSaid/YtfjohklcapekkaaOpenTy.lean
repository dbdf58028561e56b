/- The laws' own types, as the form reads them. -/
import Derived.Test.YtfjohklcapekkaaOpenMd
import Derived.Test.YtfjohklcapekkaaChecked
namespace Go.Proofs.Ytfjohklcapekkaa
open Go.ChangeShapes Go.WideShapes Go.ChangeAt Go.RowKit Go.Deep

theorem Try.tyMode : TyMode Try.prog 115 3 := ⟨_, _, _, Try.underlying115, by kernel_rfl, by kernel_rfl, Try.underlying3, Try.underlying26, Try.underlying26, Try.underlying3, by kernel_rfl⟩
theorem Try.tyActivity : TyActivity Try.prog 24 115 3 := ⟨_, _, _, Try.underlying24, by kernel_rfl, by kernel_rfl, Try.underlying9, Try.underlying3, Try.underlying22, Try.tyMode⟩
theorem Try.tyStep : TyStep Try.prog 143 := ⟨_, _, Try.underlying143, by kernel_rfl, by kernel_rfl, Try.underlying3, Try.underlying3⟩
theorem Try.tyResource : TyResource Try.prog 122 143 26 3 := ⟨_, _, Try.underlying122, by kernel_rfl, by kernel_rfl, Try.underlying120, Try.underlying87, Try.tyStep, Try.underlying26, by kernel_rfl, Try.underlying3, by kernel_rfl⟩
theorem Try.tyLink : TyLink Try.prog 124 := ⟨_, _, _, _, Try.underlying124, by kernel_rfl, by kernel_rfl, Try.underlying3, Try.underlying3, Try.underlying4, Try.underlying3⟩
theorem Try.tyProject : TyProject Try.prog 46 24 115 124 122 143 26 3 := ⟨_, _, _, _, _, Try.underlying46, by kernel_rfl, by kernel_rfl, Try.underlying3, Try.underlying42, Try.underlying43, Try.underlying44, Try.underlying26, Try.tyActivity, Try.tyLink, Try.tyResource⟩
end Go.Proofs.Ytfjohklcapekkaa
