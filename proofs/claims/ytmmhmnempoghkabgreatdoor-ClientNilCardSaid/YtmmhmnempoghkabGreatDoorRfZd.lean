/-
  A long run of the machine in parts: a part ends in a configuration that is written out.
-/
import Derived.Test.YtmmhmnempoghkabGreatDoorRfZc
import Derived.Test.YtmmhmnempoghkabGreatDoorRfU
set_option linter.all false
set_option linter.unusedSimpArgs false
namespace Rf
open Go

/-- a piece of code, by its place in another -/
def codeAt : Code → List Nat → Code
  | c, [] => c
  | .seq a _, 0 :: p => codeAt a p
  | .seq _ b, _ :: p => codeAt b p
  | .cond _ a _, 0 :: p => codeAt a p
  | .cond _ _ b, _ :: p => codeAt b p
  | .block _ a, _ :: p => codeAt a p
  | .loop a, _ :: p => codeAt a p
  | c, _ => c
def bodyAt (P : Program) (f : Nat) (p : List Nat) : Code := match P.funcs[f]? with
  | some fn => match fn.body with
    | some b => codeAt b p
    | none => .ret
  | none => .ret

/-- a region that is being gone through: by its place; the operations that are left -/
def regAt (gt : Nat → Option V) (P : Program) (wf : Nat → Nat → Nat → Bool) (f : Nat) (p : List Nat) (i : Nat) : T := match bodyAt P f p with
  | .region id ops _ => match cOps gt P (wf f id) ops 0 ops.toList with
    | some is => .reg ops i (ops.toList.drop i) (is.drop i)
    | none => .br
  | _ => .br

section
variable {gt : Nat → Option V} {P : Program}

/-- so many steps -/
def runK (gt : Nat → Option V) (P : Program) (wf : Nat → Nat → Nat → Bool) (kn call : Cl) : Nat → AF → List AF → St → Option Cfg
  | 0, fr, cs, s => some (fr, cs, s)
  | n + 1, fr, cs, s => match stepQ gt P wf kn call fr cs s with
    | some (fr', cs', s') => runK gt P wf kn call n fr' cs' s'
    | none => none

theorem runK_runA {wf : Nat → Nat → Nat → Bool} {kn call : Cl} {f0 m : Nat} {r : V × St} {a' : AF} {cs' : List AF} {s' : St} : ∀ (n : Nat) {a : AF} {cs : List AF} {s : St}, runK gt P wf kn call n a cs s = some (a', cs', s') → runA gt P wf kn call f0 m a' cs' s' = some r → runA gt P wf kn call f0 (n + m) a cs s = some r
  | 0, a, cs, s, h, h2 => by cases h; rw [Nat.zero_add]; exact h2
  | n + 1, a, cs, s, h, h2 => by
    rw [show n + 1 + m = (n + m) + 1 by omega]
    simp only [runK] at h
    simp only [runA]
    split at h
    · rename_i hq
      rw [hq]
      exact runK_runA n h h2
    · cases h

theorem Den.run (hmo : P.follows .mixedOrders = true) {wf : Nat → Nat → Nat → Bool} {kn call : Cl} (hkn : ClOk gt P kn) (hcall : ClOk gt P call) {f n : Nat} {args : List V} {s s' : St} {v : V} {fr : AF} (hfr : enterA P f args false = some fr) (h : runA gt P wf kn call f n fr [] s = some (v, s')) : Den gt P f args s v s' := fun cx w xs R G A cs => by
  obtain ⟨F', w', x, cx', h1, h2, h3, h4⟩ := runA_ok hmo hkn hcall n h (F := Frame.enter P f xs .normal) (Fs := []) (cx := cx) (w := w) ⟨enter_frame hfr G A, .nil, R, G⟩ cs
  exact ⟨.returned x, w', F', ⟨x, cx', rfl, h4⟩, h1, h3, h2⟩

def startA (gt : Nat → Option V) (P : Program) (wf : Nat → Nat → Nat → Bool) (kn call : Cl) (n f : Nat) (args : List V) (s : St) : Option Cfg := match enterA P f args false with
  | some fr => runK gt P wf kn call n fr [] s
  | none => none
def thenA (gt : Nat → Option V) (P : Program) (wf : Nat → Nat → Nat → Bool) (kn call : Cl) (n : Nat) (c : Cfg) : Option Cfg := runK gt P wf kn call n c.1 c.2.1 c.2.2
def lastRun (gt : Nat → Option V) (P : Program) (wf : Nat → Nat → Nat → Bool) (kn call : Cl) (f n : Nat) (c : Cfg) : Option V := (runA gt P wf kn call f n c.1 c.2.1 c.2.2).map (·.1)

/-- from a configuration on the function's result comes -/
def Ends (gt : Nat → Option V) (P : Program) (wf : Nat → Nat → Nat → Bool) (kn call : Cl) (f : Nat) (v : V) (c : Cfg) : Prop := ∃ n s', runA gt P wf kn call f n c.1 c.2.1 c.2.2 = some (v, s')
theorem Ends.last {wf : Nat → Nat → Nat → Bool} {kn call : Cl} {f n : Nat} {c : Cfg} {v : V} (h : lastRun gt P wf kn call f n c = some v) : Ends gt P wf kn call f v c := by
  simp only [lastRun, Option.map_eq_some_iff] at h
  obtain ⟨⟨u, s'⟩, h1, h2⟩ := h
  simp only at h2; subst h2
  exact ⟨n, s', h1⟩
theorem Ends.thenA {wf : Nat → Nat → Nat → Bool} {kn call : Cl} {f n : Nat} {c c' : Cfg} {v : V} (h : Rf.thenA gt P wf kn call n c = some c') (h2 : Ends gt P wf kn call f v c') : Ends gt P wf kn call f v c := by
  obtain ⟨m, s', h3⟩ := h2
  exact ⟨n + m, s', runK_runA n h h3⟩
theorem Ends.den (hmo : P.follows .mixedOrders = true) {wf : Nat → Nat → Nat → Bool} {kn call : Cl} (hkn : ClOk gt P kn) (hcall : ClOk gt P call) {f n : Nat} {args : List V} {s : St} {c : Cfg} {v : V} (h : startA gt P wf kn call n f args s = some c) (h2 : Ends gt P wf kn call f v c) : ∃ s', Den gt P f args s v s' := by
  unfold startA at h
  split at h
  · rename_i fr hfr
    obtain ⟨m, s', h3⟩ := h2
    exact ⟨s', Den.run hmo hkn hcall hfr (runK_runA n h h3)⟩
  · cases h

/-- what one knows, else what the other does -/
def orCl (a b : Cl) : Cl := fun f args s => match a f args s with
  | some r => some r
  | none => b f args s
theorem orCl_ok {a b : Cl} (ha : ClOk gt P a) (hb : ClOk gt P b) : ClOk gt P (orCl a b) := fun f args s v s' h => by
  unfold orCl at h
  split at h
  · rename_i r hr
    cases h
    exact ha _ _ _ _ _ hr
  · exact hb _ _ _ _ _ h

/-- functions without arguments whose results are known -/
def knL (l : List (Nat × V)) : Cl := fun f args s => match args with
  | [] => (match (gtL' l f) with
    | some v => some (v, s)
    | none => none)
  | _ => none
where gtL' : List (Nat × V) → Nat → Option V
  | [], _ => none
  | (j, v) :: r, g => match Nat.beq g j with
    | true => some v
    | false => gtL' r g
theorem knL_ok1 {f : Nat} {v : V} (hc : callOk P f = true) (h : PDen gt P f [] v) : ClOk gt P (knL [(f, v)]) := fun g args s u s' hk => by
  unfold knL at hk
  split at hk
  · simp only [knL.gtL'] at hk
    split at hk
    · rename_i w hw
      split at hw
      · rename_i hb
        have := Nat.eq_of_beq_eq_true hb
        subst this
        cases hw; cases hk
        exact ⟨hc, h _⟩
      · cases hw
    · cases hk
  · cases hk
end
end Rf
