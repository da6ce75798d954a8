/-
  ScriptTexts holds. No condition beyond the given statement.
-/
import Derived.Test.YtbcapobkbgckbaaGreatDoorScriptTextsL
import Derived.Test.YtbcapobkbgckbaaGreatDoorScriptTextsJ0
import Derived.Test.YtbcapobkbgckbaaGreatDoorScriptTextsJ1
import Derived.Test.YtbcapobkbgckbaaGreatDoorScriptTextsJ2
import Derived.Test.YtbcapobkbgckbaaGreatDoorScriptTextsJ3
import Derived.Test.YtbcapobkbgckbaaGreatDoorScriptTextsJ4
import Derived.Test.YtbcapobkbgckbaaGreatDoorCards
import Derived.Test.YtbcapobkbgckbaaGreatDoorTie
import Derived.WalkKit
import Derived.ProofKit
import Derived.OpenShut
import Derived.LaidMore
import Derived.Carry
import Derived.Stop.Joined
import Derived.SevenTiedAt
import Derived.KernelRfl
set_option linter.all false
namespace Go.Proofs.YtbcapobkbgckbaaGreatDoor
open Go Rf Go.ChangeShapes Go.WideShapes Go.ChangeAt Go.RowKit
set_option maxRecDepth 100000
set_option maxHeartbeats 4000000

theorem band {a b : Bool} (ha : a = true) (hb : b = true) : (a && b) = true := by rw [ha, hb]; rfl
theorem scriptTexts_closed : joinedFacts Tryz.checked.prog 3 Tryz.f3 Rows.scriptTextsSpec Rows.scriptTextsRow = true := band (band (band (band (band (band (band (band (band (band (band (band (band (band (band (band (band (band (band (band (band (band (band (band (band (band (band (band (band (band (band (scriptTexts_j0) scriptTexts_j1) scriptTexts_j2) scriptTexts_j3) scriptTexts_j4) scriptTexts_j5) scriptTexts_j6) scriptTexts_j7) scriptTexts_j8) scriptTexts_j9) scriptTexts_j10) scriptTexts_j11) scriptTexts_j12) scriptTexts_j13) scriptTexts_j14) scriptTexts_j15) scriptTexts_j16) scriptTexts_j17) scriptTexts_j18) scriptTexts_j19) scriptTexts_j20) scriptTexts_j21) scriptTexts_j22) scriptTexts_j23) scriptTexts_j24) scriptTexts_j25) scriptTexts_j26) scriptTexts_j27) scriptTexts_j28) scriptTexts_j29) scriptTexts_j30) scriptTexts_j31
theorem scriptTexts_named : Tryz.checked.prog.funcNamed Rows.scriptTextsRow.func = some 3 := by kernel_rfl
theorem goes_any : Tryz.checked.prog.funcs.any Func.goes = false := by kernel_rfl
theorem goes_no {P : Program} (h : P.funcs.any Func.goes = false) (f : FuncId) : P.goes f = false := by
  unfold Program.goes
  rw [h, Bool.and_false, Bool.or_false, List.any_eq_false]
  intro g _
  cases hx : P.funcs[g]? with
  | none => simp
  | some fn =>
    have hm : fn ∈ P.funcs := Array.mem_of_getElem? hx
    have := Array.any_eq_false'.1 h fn hm
    simpa using this
theorem scriptTexts_goes : Rows.scriptTextsRow.goesBy Tryz.checked.prog = false := by
  show Tryz.checked.prog.goesAt Rows.scriptTextsRow.start Rows.scriptTextsRow.func = false
  rw [show Rows.scriptTextsRow.start = Start.entering from rfl]
  show (Tryz.checked.prog.goesFrom Rows.scriptTextsRow.func || false) = false
  rw [Bool.or_false]
  unfold Program.goesFrom
  rw [scriptTexts_named]
  exact goes_no goes_any _

theorem scriptTexts_holds : Rows.ScriptTextsSaid :=
  OpenClaim.holds_of_wide 3 Tryz.f3 rfl rfl rfl rfl rfl rfl rfl ⟨rfl, rfl, rfl, rfl, rfl⟩ rfl rfl rfl rfl rfl scriptTexts_named Tryz.func3 scriptTexts_closed
    (of_decide_eq_true (by as_aux_lemma => kernel_rfl)) (by unfold Func.isWrapper; first | (rw [if_pos (by decide +kernel)]; kernel_rfl) | (rw [if_neg (by decide +kernel)]; exact ⟨rfl, rfl⟩))
    (fun os started H enc _ => scriptTexts_lifted os started H enc)

theorem scriptTexts_card : Rows.ScriptTextsCardSaid :=
  Claim7.holds_tied_plain_at .later [] [.data, .data, .data, .data, .handle, .sentinel, .sentinel, .pinned] true (true, "26c92096605394312f6c9d406152d5df5f6a72b5670519aa732853d671ac8c5b") true
    scriptTexts_holds (fun _ h => by cases h) (by as_aux_lemma => kernel_rfl) (fun _ h => by cases h) scriptTexts_row_tie rfl ⟨rfl, rfl⟩ (by as_aux_lemma => kernel_rfl) rfl
    (fun f fn hf hfn => by
      obtain rfl : f = 3 := Option.some.inj ((show Tryz.prog.funcNamed Tryz.f3.name = some 3 by as_aux_lemma => kernel_rfl).symm.trans hf) |>.symm
      obtain rfl : fn = Tryz.f3 := (Option.some.inj (Tryz.func3.symm.trans hfn)).symm
      exact ⟨by as_aux_lemma => kernel_rfl, fun j t ht => by
        rw [Tryz.params3] at ht
        have h3 : t = 22 := by
          rcases j with _ | j
          · have := ht.symm; simp at this; subst this; decide
          · simp at ht
        subst h3
        exact (show Tryz.prog.wantsStandIn 22 = false by as_aux_lemma => kernel_rfl)⟩)
    scriptTexts_goes.symm
#print axioms scriptTexts_card
end Go.Proofs.YtbcapobkbgckbaaGreatDoor
