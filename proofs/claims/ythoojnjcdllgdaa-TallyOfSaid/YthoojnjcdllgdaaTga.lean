/-
  Contracts: sums of events by keys, gathered in a map. No statement stands here.
-/
import Derived.Test.YthoojnjcdllgdaaCode
import Derived.Test.YthoojnjcdllgdaaLF
set_option linter.all false
namespace Go.Proofs.Ythoojnjcdllgdaa
open Go Rf TallyP
set_option maxRecDepth 100000
set_option maxHeartbeats 4000000

def isEv (m : Mv) : Bool := eqZ m.k 2 && eqZ m.ok 1
theorem ev_den (m : Mv) (hn : Nm s0.L m.v) : PDen gt0 Try.prog 29 [m.v] (.b (isEv m)) := by
  refine PDen.hc gnm0 hF29 (fun x hx => by simp at hx; subst hx; exact hn) (.b _) ?_
  conv => whnf
  refine sgo ?_
  unfold isEv
  cases h1 : eqZ m.k 2 <;> conv => whnf
  · refine sgo ?_
    rfl
  · refine sgo ?_
    rfl
abbrev Sm := Int × Int × Int × Int
def smV (s : Sm) : V := .ag [.i .i64 s.1, .i .i64 s.2.1, .i .i64 s.2.2.1, .i .i64 s.2.2.2]
def gf (m : Mv) : Option Sm → Sm
  | none => (wrapF .i64 (0 + 1), wrapF .i64 (0 + ((m.rl.length : Nat) : Int)), m.t, m.t)
  | some s => (wrapF .i64 (s.1 + 1), wrapF .i64 (s.2.1 + ((m.rl.length : Nat) : Int)), s.2.2.1, m.t)
def gath {K : Type} [DecidableEq K] (kf : Mv → K) (l : List (K × Sm)) (m : Mv) : List (K × Sm) := if isEv m then updM (gf m) (kf m) l else l
def iE (k : Int) : V := .i .i64 k
theorem enc_i : KEnc .i iE := ⟨fun _ => rfl, fun a b => by show some (eqZ a b) = _; rw [eqZ_eq]; rfl⟩
def EG (ms : List Mv) (F : Nat) (cap : List V) (M i : Nat) : List V := (.bad :: .fn F cap :: .bad :: .bad :: .nm :: .m M :: .bad :: .bad :: .bad :: .bad :: .bad :: .bad :: .pu 47 (ms.map Mv.v) .u :: .i .i64 (ms.length : Nat) :: .i .i64 (i : Nat) :: List.replicate 46 .bad)
end Go.Proofs.Ythoojnjcdllgdaa
