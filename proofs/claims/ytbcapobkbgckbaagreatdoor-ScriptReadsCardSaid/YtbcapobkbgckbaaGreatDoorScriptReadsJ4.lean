/-
  ScriptReads: closed facts of the row.
-/
import Derived.Test.YtbcapobkbgckbaaGreatDoorRows
import Derived.Stop.Joined
import Derived.KernelRfl
import Derived.ProofKit
import Derived.Carry
set_option linter.all false
namespace Go.Proofs.YtbcapobkbgckbaaGreatDoor
open Go Go.ChangeShapes Go.WideShapes Go.ChangeAt Go.RowKit
set_option maxRecDepth 100000
set_option maxHeartbeats 4000000

theorem scriptReads_j0 : (Rows.scriptReadsRow.wf (OpenSpec.ofChange Rows.scriptReadsSpec)) = true := by kernel_rfl
theorem scriptReads_j1 : (laidOutB Tryz.checked.prog) = true := by kernel_rfl
theorem scriptReads_j2 : (mapsRowed Tryz.checked.prog) = true := by kernel_rfl
theorem scriptReads_j3 : (Tryz.f4.params.all (Tryz.checked.prog.readableRec ·)) = true := by kernel_rfl
theorem scriptReads_j4 : (namedTie Tryz.checked.prog Rows.scriptReadsRow.named Rows.scriptReadsSpec.vars) = true := by kernel_rfl
theorem scriptReads_j5 : (Rows.scriptReadsRow.stops == []) = true := by kernel_rfl
theorem scriptReads_j6 : (Tryz.checked.prog.stops == []) = true := by kernel_rfl
theorem scriptReads_j7 : (Rows.scriptReadsRow.knobs == []) = true := by kernel_rfl
theorem scriptReads_j8 : (Tryz.checked.prog.stopKnobs == []) = true := by kernel_rfl
theorem scriptReads_j13 : (Rows.scriptReadsRow.maps == (Tryz.f4.params.toList ++ Rows.scriptReadsSpec.plain.varTypes Tryz.checked.prog).any (Tryz.checked.prog.mapsRec ·)) = true := by kernel_rfl
theorem scriptReads_j14 : (Rows.scriptReadsRow.ifaces == (Tryz.f4.params.toList ++ Rows.scriptReadsSpec.plain.varTypes Tryz.checked.prog).any (Tryz.checked.prog.ifacesRec ·)) = true := by kernel_rfl
theorem scriptReads_j15 : (Rows.scriptReadsRow.mapsOut == Tryz.checked.prog.mapsAmong Tryz.f4.resultTypes.toList) = true := by kernel_rfl
theorem scriptReads_j16 : (Rows.scriptReadsRow.loops == (Tryz.f4.params.toList ++ Rows.scriptReadsSpec.plain.varTypes Tryz.checked.prog).any (Tryz.checked.prog.loopsFrom ·)) = true := by kernel_rfl
theorem scriptReads_j17 : (Rows.scriptReadsRow.wideKeys == (Tryz.f4.params.toList ++ Rows.scriptReadsSpec.plain.varTypes Tryz.checked.prog ++ Tryz.f4.resultTypes.toList).any (Tryz.checked.prog.wideKeysFrom ·)) = true := by kernel_rfl
theorem scriptReads_j18 : (Rows.scriptReadsSpec.vars.all (Tryz.checked.prog.varReadable ·)) = true := by kernel_rfl
theorem scriptReads_j19 : (Tryz.f4.resultTypes.all (fun t => Tryz.checked.prog.readableRec t && decide (t < Tryz.checked.prog.types.size))) = true := by kernel_rfl
theorem scriptReads_j20 : (Rows.scriptReadsRow.ifacesOut == Tryz.f4.resultTypes.toList.any (Tryz.checked.prog.ifacesRec ·)) = true := by kernel_rfl
theorem scriptReads_j21 : (Rows.scriptReadsRow.loopsOut == Tryz.f4.resultTypes.toList.any (Tryz.checked.prog.loopsFrom ·)) = true := by kernel_rfl
theorem scriptReads_j22 : (Rows.scriptReadsRow.plainKeys == Tryz.checked.prog.plainKeys) = true := by kernel_rfl
theorem scriptReads_j23 : (Rows.scriptReadsRow.shortTexts.isNone) = true := by kernel_rfl
theorem scriptReads_j24 : (Tryz.checked.prog.stopsHeard) = true := by kernel_rfl
theorem scriptReads_j25 : (Tryz.checked.prog.mayEnter) = true := by kernel_rfl
theorem scriptReads_j26 : (Rows.scriptReadsRow.lifted == Tryz.checked.prog.liftsFinal) = true := by kernel_rfl
theorem scriptReads_j27 : (Tryz.checked.prog.make == some Rows.scriptReadsRow.make) = true := by kernel_rfl
theorem scriptReads_j28 : (Rows.scriptReadsRow.kinds == (if Rows.scriptReadsRow.domain.isEmpty then [] else Tryz.f4.params.toList.map fun t => match Tryz.checked.prog.underlying t with | some (.int k) => some k | _ => none)) = true := by kernel_rfl
theorem scriptReads_j29 : (Rows.scriptReadsRow.pinned == Rows.scriptReadsRow.pinnedBy) = true := by kernel_rfl
theorem scriptReads_j30 : (Rows.scriptReadsRow.veiled == (Tryz.f4.params.toList ++ Rows.scriptReadsSpec.plain.varTypes Tryz.checked.prog ++ Tryz.f4.resultTypes.toList).any (Tryz.checked.prog.veiledRec ·)) = true := by kernel_rfl
theorem scriptReads_j31 : (Rows.scriptReadsRow.veiledFits Tryz.checked.prog Tryz.f4.params.toList (Tryz.f4.params.toList ++ Rows.scriptReadsSpec.plain.varTypes Tryz.checked.prog ++ Tryz.f4.resultTypes.toList)) = true := by kernel_rfl

end Go.Proofs.YtbcapobkbgckbaaGreatDoor
