/- The closed facts of the row of UndoNil. -/
import Derived.Test.YtpmjpieiajdcgaaGreatRows
import Derived.ProofKit
namespace Go.Proofs.YtpmjpieiajdcgaaGreat
open Go Go.ChangeShapes Go.WideShapes Go.ChangeAt Go.RowKit
set_option maxRecDepth 100000
theorem and2 {a b : Bool} (h : a = true) (k : b = true) : (a && b) = true := by rw [h, k]; rfl
theorem fact0 : ((Rows.undoNilRow).wf (OpenSpec.ofChange Rows.undoNilSpec)) = true := by kernel_rfl
theorem fact1 : (laidOutB Tryz.prog) = true := by kernel_rfl
theorem fact2 : (mapsRowed Tryz.prog) = true := by kernel_rfl
theorem fact3 : (Tryz.f3.params.all (Program.readableRec Tryz.prog ·)) = true := by kernel_rfl
theorem fact4 : (namedTie Tryz.prog (Rows.undoNilRow).named (Rows.undoNilSpec).vars) = true := by kernel_rfl
theorem fact5 : ((Rows.undoNilRow).stops == []) = true := by kernel_rfl
theorem fact6 : ((Tryz.prog).stops == []) = true := by kernel_rfl
theorem fact7 : ((Rows.undoNilRow).knobs == []) = true := by kernel_rfl
theorem fact8 : ((Tryz.prog).stopKnobs == []) = true := by kernel_rfl
theorem fact9 : ((Rows.undoNilRow).inPlace == (Tryz.prog).inPlace 3) = true := by kernel_rfl
theorem fact10 : ((Rows.undoNilRow).unfollowed == (Tryz.prog).unfollowed 3) = true := by kernel_rfl
theorem fact11 : ((Rows.undoNilRow).recurses == (Tryz.prog).recurses 3) = true := by kernel_rfl
theorem fact12 : ((Rows.undoNilRow).named == (Tryz.prog).varsNamed 3) = true := by kernel_rfl
theorem fact13 : ((Rows.undoNilRow).maps == ((Tryz.f3).params.toList ++ (Rows.undoNilSpec).plain.varTypes Tryz.prog).any (Program.mapsRec Tryz.prog ·)) = true := by kernel_rfl
theorem fact14 : ((Rows.undoNilRow).ifaces == ((Tryz.f3).params.toList ++ (Rows.undoNilSpec).plain.varTypes Tryz.prog).any (Program.ifacesRec Tryz.prog ·)) = true := by kernel_rfl
theorem fact15 : ((Rows.undoNilRow).mapsOut == (Tryz.prog).mapsAmong (Tryz.f3).resultTypes.toList) = true := by kernel_rfl
theorem fact16 : ((Rows.undoNilRow).loops == ((Tryz.f3).params.toList ++ (Rows.undoNilSpec).plain.varTypes Tryz.prog).any (Program.loopsFrom Tryz.prog ·)) = true := by kernel_rfl
theorem fact17 : ((Rows.undoNilRow).wideKeys == ((Tryz.f3).params.toList ++ (Rows.undoNilSpec).plain.varTypes Tryz.prog ++ (Tryz.f3).resultTypes.toList).any (Program.wideKeysFrom Tryz.prog ·)) = true := by kernel_rfl
theorem fact18 : ((Rows.undoNilSpec).vars.all (Program.varReadable Tryz.prog ·)) = true := by kernel_rfl
theorem fact19 : ((Tryz.f3).resultTypes.all (fun t => Program.readableRec Tryz.prog t && decide (t < (Tryz.prog).types.size))) = true := by kernel_rfl
theorem fact20 : ((Rows.undoNilRow).ifacesOut == (Tryz.f3).resultTypes.toList.any (Program.ifacesRec Tryz.prog ·)) = true := by kernel_rfl
theorem fact21 : ((Rows.undoNilRow).loopsOut == (Tryz.f3).resultTypes.toList.any (Program.loopsFrom Tryz.prog ·)) = true := by kernel_rfl
theorem fact22 : ((Rows.undoNilRow).plainKeys == (Tryz.prog).plainKeys) = true := by kernel_rfl
theorem fact23 : ((Rows.undoNilRow).shortTexts.isNone) = true := by kernel_rfl
theorem fact24 : ((Tryz.prog).stopsHeard) = true := by kernel_rfl
theorem fact25 : ((Tryz.prog).mayEnter) = true := by kernel_rfl
theorem fact26 : ((Rows.undoNilRow).lifted == (Tryz.prog).liftsFinal) = true := by kernel_rfl
theorem fact27 : ((Tryz.prog).make == some (Rows.undoNilRow).make) = true := by kernel_rfl
theorem fact28 : ((Rows.undoNilRow).kinds == (if (Rows.undoNilRow).domain.isEmpty then [] else (Tryz.f3).params.toList.map fun t => match (Tryz.prog).underlying t with | some (.int k) => some k | _ => none)) = true := by kernel_rfl
theorem fact29 : ((Rows.undoNilRow).pinned == (Rows.undoNilRow).pinnedBy) = true := by kernel_rfl
theorem fact30 : ((Rows.undoNilRow).veiled == ((Tryz.f3).params.toList ++ (Rows.undoNilSpec).plain.varTypes Tryz.prog ++ (Tryz.f3).resultTypes.toList).any (Program.veiledRec Tryz.prog ·)) = true := by kernel_rfl
theorem fact31 : ((Rows.undoNilRow).veiledFits Tryz.prog (Tryz.f3).params.toList ((Tryz.f3).params.toList ++ (Rows.undoNilSpec).plain.varTypes Tryz.prog ++ (Tryz.f3).resultTypes.toList)) = true := by kernel_rfl
theorem joined : joinedFacts Tryz.prog 3 Tryz.f3 Rows.undoNilSpec Rows.undoNilRow = true :=
  (and2 (and2 (and2 (and2 (and2 (and2 (and2 (and2 (and2 (and2 (and2 (and2 (and2 (and2 (and2 (and2 (and2 (and2 (and2 (and2 (and2 (and2 (and2 (and2 (and2 (and2 (and2 (and2 (and2 (and2 (and2 fact0 fact1) fact2) fact3) fact4) fact5) fact6) fact7) fact8) fact9) fact10) fact11) fact12) fact13) fact14) fact15) fact16) fact17) fact18) fact19) fact20) fact21) fact22) fact23) fact24) fact25) fact26) fact27) fact28) fact29) fact30) fact31)
end Go.Proofs.YtpmjpieiajdcgaaGreat
