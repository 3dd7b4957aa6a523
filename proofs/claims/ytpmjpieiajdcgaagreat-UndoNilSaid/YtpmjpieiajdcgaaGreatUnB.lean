/- UnB -/
import Derived.Test.YtpmjpieiajdcgaaGreatUnA
namespace Go.Proofs.YtpmjpieiajdcgaaGreat
open Go Go.RowKit
theorem awake_run : isB true (qFn Tryz.prog xt 300 (drawQ Tryz.prog xt) 60 13 #[] H0) = true := by kernel_rfl
theorem awake_ok (w : World) : Calls Tryz.prog 13 #[] w fun e w' => e = .returned (.bool true) ∧ Below w.heap.size w w' := q_bool fitP awake_run w
end Go.Proofs.YtpmjpieiajdcgaaGreat
