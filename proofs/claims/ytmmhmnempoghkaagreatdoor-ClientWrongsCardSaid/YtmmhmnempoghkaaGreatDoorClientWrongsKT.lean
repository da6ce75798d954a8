/-
  A part of the run of a closed function of ClientWrongs's package. No statement stands here.
-/
import Derived.Test.YtmmhmnempoghkaaGreatDoorClientWrongsKT0
set_option linter.all false
namespace Go.Proofs.YtmmhmnempoghkaaGreatDoor
open Go Rf
set_option maxRecDepth 100000

theorem callT_ok : ClOk gt0 Tryz.prog callT := callA_ok mixed kn0_ok 200000 8
def nmI : V → Bool
  | .i _ _ => true
  | _ => false
theorem kv_nm : Nm s0.L kv95 := by
  refine .ag _ (fun x hx => ?_)
  have h : (kv95.cells.all nmI) = true := by kernel_rfl
  have := List.all_eq_true.1 h x hx
  cases x <;> first | exact .i _ _ | (cases this; done)
theorem tbl_pden : PDen gt0 Tryz.prog 95 [] kv95 := by
  obtain ⟨s', h⟩ := Ends.den mixed kn0_ok callT_ok tp0 (Ends.thenA tp1 (Ends.last tl))
  exact Den.pure gnm0 (fun x hx => by simp at hx) kv_nm h
theorem kb_ok : ClOk gt0 Tryz.prog kb := orCl_ok (knAs_ok rfl) (knL_ok1 (by kernel_rfl) tbl_pden)
theorem call0_ok : ClOk gt0 Tryz.prog call0 := callA_ok mixed kb_ok 200000 8
end Go.Proofs.YtmmhmnempoghkaaGreatDoor
