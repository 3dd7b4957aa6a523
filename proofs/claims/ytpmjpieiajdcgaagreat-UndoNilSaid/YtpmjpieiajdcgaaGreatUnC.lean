/- UnC -/
import Derived.Test.YtpmjpieiajdcgaaGreatUnB
import Derived.Test.YtpmjpieiajdcgaaGreatPeTab
import Derived.ProofKit
import Derived.OpenShut
namespace Go.Proofs.YtpmjpieiajdcgaaGreat
open Go Go.ChangeShapes Go.WideShapes Go.ChangeAt Go.RowKit

noncomputable def callU : CallFn := tab1 13 (.bool true) (qFn Tryz.prog xt 30 (drawQ Tryz.prog xt) 10)
theorem callU_ok : CallOk Tryz.prog callU := tab1_ok rfl awake_ok (qFn_ok fitP 30 10)
noncomputable def slv (i : Nat) (x : Option (Nat × Nat)) : Value := match x with | none => .slice none 0 0 | some (n, c) => .slice (some ⟨i, 0, some 0⟩) n c
theorem run_nn (k m n : Int) (s t : ByteArray) : isB true (qStep Tryz.prog xt 30 (drawQ Tryz.prog xt) callU 3 #[.agg #[.int .i64 k, .slice none 0 0, .slice none 0 0, .int .i64 m, .string s, .string t], .int .i64 n] (Hn 3)) = true := by kernel_rfl
theorem run_sn (a b : Nat) (k m n : Int) (s t : ByteArray) : isB true (qStep Tryz.prog xt 30 (drawQ Tryz.prog xt) callU 3 #[.agg #[.int .i64 k, .slice (some ⟨1, 0, some 0⟩) a b, .slice none 0 0, .int .i64 m, .string s, .string t], .int .i64 n] (Hn 3)) = true := by kernel_rfl
theorem run_ns (a b : Nat) (k m n : Int) (s t : ByteArray) : isB true (qStep Tryz.prog xt 30 (drawQ Tryz.prog xt) callU 3 #[.agg #[.int .i64 k, .slice none 0 0, .slice (some ⟨2, 0, some 0⟩) a b, .int .i64 m, .string s, .string t], .int .i64 n] (Hn 3)) = true := by kernel_rfl
theorem run_ss (a b c d : Nat) (k m n : Int) (s t : ByteArray) : isB true (qStep Tryz.prog xt 30 (drawQ Tryz.prog xt) callU 3 #[.agg #[.int .i64 k, .slice (some ⟨1, 0, some 0⟩) a b, .slice (some ⟨2, 0, some 0⟩) c d, .int .i64 m, .string s, .string t], .int .i64 n] (Hn 3)) = true := by kernel_rfl
end Go.Proofs.YtpmjpieiajdcgaaGreat
