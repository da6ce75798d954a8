/-
  ScriptTexts: closed facts of the row.
-/
import Derived.Test.YtbcapobkbgckbaaGreatDoorRows
import Derived.Stop.Joined
import Derived.KernelRfl
import Derived.ProofKit
import Derived.Carry
set_option linter.all false
namespace Go.Proofs.YtbcapobkbgckbaaGreatDoor
open Go Go.ChangeShapes Go.WideShapes Go.ChangeAt Go.RowKit
set_option maxRecDepth 100000
set_option maxHeartbeats 4000000

theorem scriptTexts_j0 : (Rows.scriptTextsRow.wf (OpenSpec.ofChange Rows.scriptTextsSpec)) = true := by kernel_rfl
theorem scriptTexts_j1 : (laidOutB Tryz.checked.prog) = true := by kernel_rfl
theorem scriptTexts_j2 : (mapsRowed Tryz.checked.prog) = true := by kernel_rfl
theorem scriptTexts_j3 : (Tryz.f3.params.all (Tryz.checked.prog.readableRec ·)) = true := by kernel_rfl
theorem scriptTexts_j4 : (namedTie Tryz.checked.prog Rows.scriptTextsRow.named Rows.scriptTextsSpec.vars) = true := by kernel_rfl
theorem scriptTexts_j5 : (Rows.scriptTextsRow.stops == []) = true := by kernel_rfl
theorem scriptTexts_j6 : (Tryz.checked.prog.stops == []) = true := by kernel_rfl
theorem scriptTexts_j7 : (Rows.scriptTextsRow.knobs == []) = true := by kernel_rfl
theorem scriptTexts_j8 : (Tryz.checked.prog.stopKnobs == []) = true := by kernel_rfl
theorem scriptTexts_j13 : (Rows.scriptTextsRow.maps == (Tryz.f3.params.toList ++ Rows.scriptTextsSpec.plain.varTypes Tryz.checked.prog).any (Tryz.checked.prog.mapsRec ·)) = true := by kernel_rfl
theorem scriptTexts_j14 : (Rows.scriptTextsRow.ifaces == (Tryz.f3.params.toList ++ Rows.scriptTextsSpec.plain.varTypes Tryz.checked.prog).any (Tryz.checked.prog.ifacesRec ·)) = true := by kernel_rfl
theorem scriptTexts_j15 : (Rows.scriptTextsRow.mapsOut == Tryz.checked.prog.mapsAmong Tryz.f3.resultTypes.toList) = true := by kernel_rfl
theorem scriptTexts_j16 : (Rows.scriptTextsRow.loops == (Tryz.f3.params.toList ++ Rows.scriptTextsSpec.plain.varTypes Tryz.checked.prog).any (Tryz.checked.prog.loopsFrom ·)) = true := by kernel_rfl
theorem scriptTexts_j17 : (Rows.scriptTextsRow.wideKeys == (Tryz.f3.params.toList ++ Rows.scriptTextsSpec.plain.varTypes Tryz.checked.prog ++ Tryz.f3.resultTypes.toList).any (Tryz.checked.prog.wideKeysFrom ·)) = true := by kernel_rfl
theorem scriptTexts_j18 : (Rows.scriptTextsSpec.vars.all (Tryz.checked.prog.varReadable ·)) = true := by kernel_rfl
theorem scriptTexts_j19 : (Tryz.f3.resultTypes.all (fun t => Tryz.checked.prog.readableRec t && decide (t < Tryz.checked.prog.types.size))) = true := by kernel_rfl
theorem scriptTexts_j20 : (Rows.scriptTextsRow.ifacesOut == Tryz.f3.resultTypes.toList.any (Tryz.checked.prog.ifacesRec ·)) = true := by kernel_rfl
theorem scriptTexts_j21 : (Rows.scriptTextsRow.loopsOut == Tryz.f3.resultTypes.toList.any (Tryz.checked.prog.loopsFrom ·)) = true := by kernel_rfl
theorem scriptTexts_j22 : (Rows.scriptTextsRow.plainKeys == Tryz.checked.prog.plainKeys) = true := by kernel_rfl
theorem scriptTexts_j23 : (Rows.scriptTextsRow.shortTexts.isNone) = true := by kernel_rfl
theorem scriptTexts_j24 : (Tryz.checked.prog.stopsHeard) = true := by kernel_rfl
theorem scriptTexts_j25 : (Tryz.checked.prog.mayEnter) = true := by kernel_rfl
theorem scriptTexts_j26 : (Rows.scriptTextsRow.lifted == Tryz.checked.prog.liftsFinal) = true := by kernel_rfl
theorem scriptTexts_j27 : (Tryz.checked.prog.make == some Rows.scriptTextsRow.make) = true := by kernel_rfl
theorem scriptTexts_j28 : (Rows.scriptTextsRow.kinds == (if Rows.scriptTextsRow.domain.isEmpty then [] else Tryz.f3.params.toList.map fun t => match Tryz.checked.prog.underlying t with | some (.int k) => some k | _ => none)) = true := by kernel_rfl
theorem scriptTexts_j29 : (Rows.scriptTextsRow.pinned == Rows.scriptTextsRow.pinnedBy) = true := by kernel_rfl
theorem scriptTexts_j30 : (Rows.scriptTextsRow.veiled == (Tryz.f3.params.toList ++ Rows.scriptTextsSpec.plain.varTypes Tryz.checked.prog ++ Tryz.f3.resultTypes.toList).any (Tryz.checked.prog.veiledRec ·)) = true := by kernel_rfl
theorem scriptTexts_j31 : (Rows.scriptTextsRow.veiledFits Tryz.checked.prog Tryz.f3.params.toList (Tryz.f3.params.toList ++ Rows.scriptTextsSpec.plain.varTypes Tryz.checked.prog ++ Tryz.f3.resultTypes.toList)) = true := by kernel_rfl

end Go.Proofs.YtbcapobkbgckbaaGreatDoor
