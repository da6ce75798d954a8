/-
  The chapter's row. No statement stands here.
-/
import Derived.Test.YthoojnjcdllgdaaBase
import Derived.Test.YthoojnjcdllgdaaLE
set_option linter.all false
namespace Go.Proofs.Ythoojnjcdllgdaa
open Go Rf
set_option maxRecDepth 100000

def wfz (_ : Nat) : Nat → Nat → Bool := fun _ _ => true
noncomputable def tb : Nat → Option F := fun f => if callOk Try.prog f then cF gt0 Try.prog (wfz f) f else none
theorem tb_ok : TbOk gt0 Try.prog wfz tb := by
  refine ⟨fun f F h => ?_, fun f F h => ?_⟩
  · unfold tb at h; split at h
    · exact h
    · cases h
  · unfold tb at h; split at h
    · assumption
    · cases h
theorem den_of {f : Nat} {args : List V} {s : St} {v : V} {n d : Nat} (h : (evFT tb n d f args s).map (·.1) = some v) : ∃ s', Den gt0 Try.prog f args s v s' := by
  simp only [Option.map_eq_some_iff] at h
  obtain ⟨⟨v', s'⟩, h1, h2⟩ := h
  simp only at h2
  subst h2
  exact ⟨s', (evFT_ok mixed tb_ok n d _ _ _ _ _ h1).2⟩
theorem known_run : (evFT tb 1000 1000 7 [] s0).map (·.1) = some (.b true) := by kernel_rfl
theorem known_pden : PDen gt0 Try.prog 7 [] (.b true) := by
  obtain ⟨s', h⟩ := den_of known_run
  exact Den.pure gnm0 (fun x hx => by simp at hx) (.b _) h
end Go.Proofs.Ythoojnjcdllgdaa
