/-
  ScriptReads holds. No condition beyond the given statement.
-/
import Derived.Test.YtbcapobkbgckbaaGreatDoorScriptReadsL
import Derived.Test.YtbcapobkbgckbaaGreatDoorScriptReadsJ0
import Derived.Test.YtbcapobkbgckbaaGreatDoorScriptReadsJ1
import Derived.Test.YtbcapobkbgckbaaGreatDoorScriptReadsJ2
import Derived.Test.YtbcapobkbgckbaaGreatDoorScriptReadsJ3
import Derived.Test.YtbcapobkbgckbaaGreatDoorScriptReadsJ4
import Derived.Test.YtbcapobkbgckbaaGreatDoorCards
import Derived.Test.YtbcapobkbgckbaaGreatDoorTie
import Derived.WalkKit
import Derived.ProofKit
import Derived.OpenShut
import Derived.LaidMore
import Derived.Carry
import Derived.Stop.Joined
import Derived.SevenTiedAt
import Derived.KernelRfl
set_option linter.all false
namespace Go.Proofs.YtbcapobkbgckbaaGreatDoor
open Go Rf Go.ChangeShapes Go.WideShapes Go.ChangeAt Go.RowKit
set_option maxRecDepth 100000
set_option maxHeartbeats 4000000

theorem band {a b : Bool} (ha : a = true) (hb : b = true) : (a && b) = true := by rw [ha, hb]; rfl
theorem scriptReads_closed : joinedFacts Tryz.checked.prog 4 Tryz.f4 Rows.scriptReadsSpec Rows.scriptReadsRow = true := band (band (band (band (band (band (band (band (band (band (band (band (band (band (band (band (band (band (band (band (band (band (band (band (band (band (band (band (band (band (band (scriptReads_j0) scriptReads_j1) scriptReads_j2) scriptReads_j3) scriptReads_j4) scriptReads_j5) scriptReads_j6) scriptReads_j7) scriptReads_j8) scriptReads_j9) scriptReads_j10) scriptReads_j11) scriptReads_j12) scriptReads_j13) scriptReads_j14) scriptReads_j15) scriptReads_j16) scriptReads_j17) scriptReads_j18) scriptReads_j19) scriptReads_j20) scriptReads_j21) scriptReads_j22) scriptReads_j23) scriptReads_j24) scriptReads_j25) scriptReads_j26) scriptReads_j27) scriptReads_j28) scriptReads_j29) scriptReads_j30) scriptReads_j31
theorem scriptReads_named : Tryz.checked.prog.funcNamed Rows.scriptReadsRow.func = some 4 := by kernel_rfl
theorem goes_any : Tryz.checked.prog.funcs.any Func.goes = false := by kernel_rfl
theorem goes_no {P : Program} (h : P.funcs.any Func.goes = false) (f : FuncId) : P.goes f = false := by
  unfold Program.goes
  rw [h, Bool.and_false, Bool.or_false, List.any_eq_false]
  intro g _
  cases hx : P.funcs[g]? with
  | none => simp
  | some fn =>
    have hm : fn ∈ P.funcs := Array.mem_of_getElem? hx
    have := Array.any_eq_false'.1 h fn hm
    simpa using this
theorem scriptReads_goes : Rows.scriptReadsRow.goesBy Tryz.checked.prog = false := by
  show Tryz.checked.prog.goesAt Rows.scriptReadsRow.start Rows.scriptReadsRow.func = false
  rw [show Rows.scriptReadsRow.start = Start.entering from rfl]
  show (Tryz.checked.prog.goesFrom Rows.scriptReadsRow.func || false) = false
  rw [Bool.or_false]
  unfold Program.goesFrom
  rw [scriptReads_named]
  exact goes_no goes_any _

theorem scriptReads_holds : Rows.ScriptReadsSaid :=
  OpenClaim.holds_of_wide 4 Tryz.f4 rfl rfl rfl rfl rfl rfl rfl ⟨rfl, rfl, rfl, rfl, rfl⟩ rfl rfl rfl rfl rfl scriptReads_named Tryz.func4 scriptReads_closed
    (of_decide_eq_true (by as_aux_lemma => kernel_rfl)) (by unfold Func.isWrapper; first | (rw [if_pos (by decide +kernel)]; kernel_rfl) | (rw [if_neg (by decide +kernel)]; exact ⟨rfl, rfl⟩))
    (fun os started H enc _ => scriptReads_lifted os started H enc)

theorem scriptReads_card : Rows.ScriptReadsCardSaid :=
  Claim7.holds_tied_plain_at .later [] [.data, .data, .data, .data, .handle, .sentinel, .sentinel, .pinned] true (true, "26c92096605394312f6c9d406152d5df5f6a72b5670519aa732853d671ac8c5b") true
    scriptReads_holds (fun _ h => by cases h) (by as_aux_lemma => kernel_rfl) (fun _ h => by cases h) scriptReads_row_tie rfl ⟨rfl, rfl⟩ (by as_aux_lemma => kernel_rfl) rfl
    (fun f fn hf hfn => by
      obtain rfl : f = 4 := Option.some.inj ((show Tryz.prog.funcNamed Tryz.f4.name = some 4 by as_aux_lemma => kernel_rfl).symm.trans hf) |>.symm
      obtain rfl : fn = Tryz.f4 := (Option.some.inj (Tryz.func4.symm.trans hfn)).symm
      exact ⟨by as_aux_lemma => kernel_rfl, fun j t ht => by
        rw [Tryz.params4] at ht
        have h3 : t = 9 := by
          rcases j with _ | j
          · have := ht.symm; simp at this; subst this; decide
          · simp at ht
        subst h3
        exact (show Tryz.prog.wantsStandIn 9 = false by as_aux_lemma => kernel_rfl)⟩)
    scriptReads_goes.symm
#print axioms scriptReads_card
end Go.Proofs.YtbcapobkbgckbaaGreatDoor
