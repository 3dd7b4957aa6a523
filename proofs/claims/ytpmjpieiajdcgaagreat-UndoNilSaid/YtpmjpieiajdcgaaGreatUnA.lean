/- UnA -/
import Derived.Test.YtpmjpieiajdcgaaGreatChecked
import Derived.Test.YtpmjpieiajdcgaaGreatPeQ8
import Derived.Test.YtpmjpieiajdcgaaGreatPeFit
import Derived.KernelRfl
namespace Go.Proofs.YtpmjpieiajdcgaaGreat
open Go Go.RowKit
noncomputable def xt := ext3 261 288 302
theorem fitP : Fit Tryz.prog xt := by
  refine fit3 (by kernel_rfl) (by kernel_rfl) (fa := Tryz.f261) (fb := Tryz.f288) (fc := Tryz.f302) (by kernel_rfl) (by kernel_rfl) (by kernel_rfl) (by kernel_rfl) ?_ (by kernel_rfl) (by kernel_rfl) (by kernel_rfl) ?_ (by kernel_rfl) (by kernel_rfl) (by kernel_rfl) ?_ (by kernel_rfl) (by kernel_rfl)
  all_goals (intro h; revert h; simp [Tryz.f261, Tryz.f288, Tryz.f302])
end Go.Proofs.YtpmjpieiajdcgaaGreat
