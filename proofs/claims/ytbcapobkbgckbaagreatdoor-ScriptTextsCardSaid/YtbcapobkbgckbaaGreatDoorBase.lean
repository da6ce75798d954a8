/-
  The seat's ground: which operations make what is never written, the table of functions, the run in the kernel. No statement stands here.
-/
import Derived.Test.YtbcapobkbgckbaaGreatDoorLD
import Derived.Test.YtbcapobkbgckbaaGreatDoorLF
import Derived.Test.YtbcapobkbgckbaaGreatDoorRows
import Derived.KernelRfl
set_option linter.all false
namespace Go.Proofs.YtbcapobkbgckbaaGreatDoor
open Go Rf
set_option maxRecDepth 100000

def gt0 : Nat → Option V := fun _ => none
theorem gnm0 : GNm gt0 := fun g v h => by cases h
def wfa (f : Nat) : Nat → Nat → Bool := fun _ _ => !(Nat.beq f 17 || Nat.beq f 19 || Nat.beq f 44)
def wfB : Nat → Nat → Nat → Bool := wfa
noncomputable def tbB : Nat → Option F := fun f => if callOk Tryz.prog f then cF gt0 Tryz.prog (wfB f) f else none
theorem tbB_ok : TbOk gt0 Tryz.prog wfB tbB := by
  refine ⟨fun f F h => ?_, fun f F h => ?_⟩
  · unfold tbB at h; split at h
    · exact h
    · cases h
  · unfold tbB at h; split at h
    · assumption
    · cases h
theorem mixed : Tryz.prog.follows .mixedOrders = true := by kernel_rfl
theorem den_of {f : Nat} {args : List V} {s : St} {v : V} {n d : Nat} (h : (evFT tbB n d f args s).map (·.1) = some v) : ∃ s', Den gt0 Tryz.prog f args s v s' := by
  simp only [Option.map_eq_some_iff] at h
  obtain ⟨⟨v', s'⟩, h1, h2⟩ := h
  simp only at h2
  subst h2
  exact ⟨s', (evFT_ok mixed tbB_ok n d _ _ _ _ _ h1).2⟩
theorem own : ownKnob Tryz.prog.godebug = none := by kernel_rfl
end Go.Proofs.YtbcapobkbgckbaaGreatDoor
