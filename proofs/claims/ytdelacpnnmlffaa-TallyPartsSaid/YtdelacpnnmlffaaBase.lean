/-
  The seat's ground: the table of functions, the run in the kernel, moves as values. No statement stands here.
-/
import Derived.Test.YtdelacpnnmlffaaRfQa
import Derived.Test.YtdelacpnnmlffaaRfY
import Derived.Test.YtdelacpnnmlffaaRfV
import Derived.Test.YtdelacpnnmlffaaRows
import Derived.KernelRfl
set_option linter.all false
namespace Go.Proofs.Ytdelacpnnmlffaa
open Go Rf
set_option maxRecDepth 100000

def gt0 : Nat → Option V := fun _ => none
theorem gnm0 : GNm gt0 := fun g v h => by cases h
def wfa (_ : Nat) : Nat → Nat → Bool := fun _ _ => true
noncomputable def tb : Nat → Option F := fun f => if callOk Try.prog f then cF gt0 Try.prog (wfa f) f else none
theorem tb_ok : TbOk gt0 Try.prog wfa tb := by
  refine ⟨fun f F h => ?_, fun f F h => ?_⟩
  · unfold tb at h; split at h
    · exact h
    · cases h
  · unfold tb at h; split at h
    · assumption
    · cases h
theorem mixed : Try.prog.follows .mixedOrders = true := by kernel_rfl

theorem den_of {f : Nat} {args : List V} {s : St} {v : V} {n d : Nat} (h : (evFT tb n d f args s).map (·.1) = some v) : ∃ s', Den gt0 Try.prog f args s v s' := by
  simp only [Option.map_eq_some_iff] at h
  obtain ⟨⟨v', s'⟩, h1, h2⟩ := h
  simp only at h2
  subst h2
  exact ⟨s', (evFT_ok mixed tb_ok n d _ _ _ _ _ h1).2⟩

theorem own : ownKnob Try.prog.godebug = none := by kernel_rfl

/-- a move: its kind, its response's kind and error, its outcome's kind, event's time and records; the rest -/
structure Mv where
  k : Int
  bs : List V
  rk : Int
  re : Int
  vs : List V
  ok : Int
  t : Int
  rl : List V
  d : Nat → V

def Mv.v (m : Mv) : V := .ag [.i .i64 m.k, m.d 1, m.d 2, m.d 3, m.d 4, .pu 1 m.bs .u, m.d 6, m.d 7, m.d 8, m.d 9, m.d 10, m.d 11, m.d 12, m.d 13, m.d 14, m.d 15, m.d 16, m.d 17, m.d 18,
  .i .i64 m.rk, m.d 20, .i .i64 m.re, m.d 22, .pu 1 m.vs .u, m.d 24, m.d 25, m.d 26, m.d 27, m.d 28, m.d 29, m.d 30, m.d 31, m.d 32, m.d 33, m.d 34, m.d 35, m.d 36,
  .i .i64 m.ok, .i .i64 m.t, m.d 39, m.d 40, m.d 41, m.d 42, m.d 43, .pu 6 m.rl .u, m.d 45, m.d 46]

theorem known_run : (evFT tb 1000 1000 6 [] s0).map (·.1) = some (.b true) := by kernel_rfl
theorem known_pden : PDen gt0 Try.prog 6 [] (.b true) := by
  obtain ⟨s', h⟩ := den_of known_run
  exact Den.pure gnm0 (fun x hx => by simp at hx) (.b _) h

end Go.Proofs.Ytdelacpnnmlffaa
