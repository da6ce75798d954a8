/-
  A long run of the machine in parts: a part ends in a configuration that is written out.
-/
import Derived.Test.YtklgkdehnaecnaaDoorRfZc
import Derived.Test.YtklgkdehnaecnaaDoorRfU
set_option linter.all false
set_option linter.unusedSimpArgs false
namespace Rf
open Go

/-- a piece of code, by its place in another -/
def codeAt : Code → List Nat → Code
  | c, [] => c
  | .seq a _, 0 :: p => codeAt a p
  | .seq _ b, _ :: p => codeAt b p
  | .cond _ a _, 0 :: p => codeAt a p
  | .cond _ _ b, _ :: p => codeAt b p
  | .block _ a, _ :: p => codeAt a p
  | .loop a, _ :: p => codeAt a p
  | c, _ => c
def bodyAt (P : Program) (f : Nat) (p : List Nat) : Code := match P.funcs[f]? with
  | some fn => match fn.body with
    | some b => codeAt b p
    | none => .ret
  | none => .ret

/-- a region that is being gone through: by its place; the operations that are left -/
def regAt (gt : Nat → Option V) (P : Program) (wf : Nat → Nat → Nat → Bool) (f : Nat) (p : List Nat) (i : Nat) : T := match bodyAt P f p with
  | .region id ops _ => match cOps gt P (wf f id) ops 0 ops.toList with
    | some is => .reg ops i (ops.toList.drop i) (is.drop i)
    | none => .br
  | _ => .br

section
variable {gt : Nat → Option V} {P : Program}

/-- so many steps -/
def runK (gt : Nat → Option V) (P : Program) (wf : Nat → Nat → Nat → Bool) (kn call : Cl) : Nat → AF → List AF → St → Option Cfg
  | 0, fr, cs, s => some (fr, cs, s)
  | n + 1, fr, cs, s => match stepQ gt P wf kn call fr cs s with
    | some (fr', cs', s') => runK gt P wf kn call n fr' cs' s'
    | none => none

theorem runK_runA {wf : Nat → Nat → Nat → Bool} {kn call : Cl} {f0 m : Nat} {r : V × St} {a' : AF} {cs' : List AF} {s' : St} : ∀ (n : Nat) {a : AF} {cs : List AF} {s : St}, runK gt P wf kn call n a cs s = some (a', cs', s') → runA gt P wf kn call f0 m a' cs' s' = some r → runA gt P wf kn call f0 (n + m) a cs s = some r
  | 0, a, cs, s, h, h2 => by cases h; rw [Nat.zero_add]; exact h2
  | n + 1, a, cs, s, h, h2 => by
    rw [show n + 1 + m = (n + m) + 1 by omega]
    simp only [runK] at h
    simp only [runA]
    split at h
    · rename_i hq
      rw [hq]
      exact runK_runA n h h2
    · cases h

theorem Den.run (hmo : P.follows .mixedOrders = true) {wf : Nat → Nat → Nat → Bool} {kn call : Cl} (hkn : ClOk gt P kn) (hcall : ClOk gt P call) {f n : Nat} {args : List V} {s s' : St} {v : V} {fr : AF} (hfr : enterA P f args false = some fr) (h : runA gt P wf kn call f n fr [] s = some (v, s')) : Den gt P f args s v s' := fun cx w xs R G A cs => by
  obtain ⟨F', w', x, cx', h1, h2, h3, h4⟩ := runA_ok hmo hkn hcall n h (F := Frame.enter P f xs .normal) (Fs := []) (cx := cx) (w := w) ⟨enter_frame hfr G A, .nil, R, G⟩ cs
  exact ⟨.returned x, w', F', ⟨x, cx', rfl, h4⟩, h1, h3, h2⟩

def startA (gt : Nat → Option V) (P : Program) (wf : Nat → Nat → Nat → Bool) (kn call : Cl) (n f : Nat) (args : List V) (s : St) : Option Cfg := match enterA P f args false with
  | some fr => runK gt P wf kn call n fr [] s
  | none => none
def thenA (gt : Nat → Option V) (P : Program) (wf : Nat → Nat → Nat → Bool) (kn call : Cl) (n : Nat) (c : Cfg) : Option Cfg := runK gt P wf kn call n c.1 c.2.1 c.2.2
def lastRun (gt : Nat → Option V) (P : Program) (wf : Nat → Nat → Nat → Bool) (kn call : Cl) (f n : Nat) (c : Cfg) : Option V := (runA gt P wf kn call f n c.1 c.2.1 c.2.2).map (·.1)

/-- from a configuration on the function's result comes -/
def Ends (gt : Nat → Option V) (P : Program) (wf : Nat → Nat → Nat → Bool) (kn call : Cl) (f : Nat) (v : V) (c : Cfg) : Prop := ∃ n s', runA gt P wf kn call f n c.1 c.2.1 c.2.2 = some (v, s')
theorem Ends.last {wf : Nat → Nat → Nat → Bool} {kn call : Cl} {f n : Nat} {c : Cfg} {v : V} (h : lastRun gt P wf kn call f n c = some v) : Ends gt P wf kn call f v c := by
  simp only [lastRun, Option.map_eq_some_iff] at h
  obtain ⟨⟨u, s'⟩, h1, h2⟩ := h
  simp only at h2; subst h2
  exact ⟨n, s', h1⟩
theorem Ends.thenA {wf : Nat → Nat → Nat → Bool} {kn call : Cl} {f n : Nat} {c c' : Cfg} {v : V} (h : Rf.thenA gt P wf kn call n c = some c') (h2 : Ends gt P wf kn call f v c') : Ends gt P wf kn call f v c := by
  obtain ⟨m, s', h3⟩ := h2
  exact ⟨n + m, s', runK_runA n h h3⟩
theorem Ends.den (hmo : P.follows .mixedOrders = true) {wf : Nat → Nat → Nat → Bool} {kn call : Cl} (hkn : ClOk gt P kn) (hcall : ClOk gt P call) {f n : Nat} {args : List V} {s : St} {c : Cfg} {v : V} (h : startA gt P wf kn call n f args s = some c) (h2 : Ends gt P wf kn call f v c) : ∃ s', Den gt P f args s v s' := by
  unfold startA at h
  split at h
  · rename_i fr hfr
    obtain ⟨m, s', h3⟩ := h2
    exact ⟨s', Den.run hmo hkn hcall hfr (runK_runA n h h3)⟩
  · cases h

/-- what one knows, else what the other does -/
def orCl (a b : Cl) : Cl := fun f args s => match a f args s with
  | some r => some r
  | none => b f args s
theorem orCl_ok {a b : Cl} (ha : ClOk gt P a) (hb : ClOk gt P b) : ClOk gt P (orCl a b) := fun f args s v s' h => by
  unfold orCl at h
  split at h
  · rename_i r hr
    cases h
    exact ha _ _ _ _ _ hr
  · exact hb _ _ _ _ _ h

/-- functions without arguments whose results are known -/
def knL (l : List (Nat × V)) : Cl := fun f args s => match args with
  | [] => (match (gtL' l f) with
    | some v => some (v, s)
    | none => none)
  | _ => none
where gtL' : List (Nat × V) → Nat → Option V
  | [], _ => none
  | (j, v) :: r, g => match Nat.beq g j with
    | true => some v
    | false => gtL' r g
theorem knL_ok1 {f : Nat} {v : V} (hc : callOk P f = true) (h : PDen gt P f [] v) : ClOk gt P (knL [(f, v)]) := fun g args s u s' hk => by
  unfold knL at hk
  split at hk
  · simp only [knL.gtL'] at hk
    split at hk
    · rename_i w hw
      split at hw
      · rename_i hb
        have := Nat.eq_of_beq_eq_true hb
        subst this
        cases hw; cases hk
        exact ⟨hc, h _⟩
      · cases hw
    · cases hk
  · cases hk

/-- a value that names nothing -/
def nmB : Nat → V → Bool
  | 0, _ => false
  | k + 1, v => match v with
    | .b _ => true
    | .i _ _ => true
    | .s _ => true
    | .np => true
    | .ns => true
    | .nm => true
    | .nf => true
    | .ni => true
    | .pu _ xs (.x _) => xs.all (nmB k)
    | .pu _ xs .u => xs.all (nmB k)
    | .ifc _ v => nmB k v
    | .ag cs => cs.all (nmB k)
    | _ => false
theorem nmB_ok {n : Nat → Prop} : ∀ (k : Nat) (v : V), nmB k v = true → Nm n v
  | 0, _, h => by cases h
  | k + 1, v, h => by
    have ih := nmB_ok (n := n) k
    unfold nmB at h
    split at h
    · exact .b _
    · exact .i _ _
    · exact .s _
    · exact .np
    · exact .ns
    · exact .nm
    · exact .nf
    · exact .ni
    · exact .pu _ _ _ (fun x hx => ih x (List.all_eq_true.1 h x hx)) (fun k hk => by cases hk)
    · exact .pu _ _ _ (fun x hx => ih x (List.all_eq_true.1 h x hx)) (fun k hk => by cases hk)
    · exact .ifc _ _ (ih _ h)
    · exact .ag _ (fun x hx => ih x (List.all_eq_true.1 h x hx))
    · cases h

/-- a function's calls at these arguments -/
def lookP : List (List V × V) → List V → Option V
  | [], _ => none
  | (a, v) :: r, args => match sameL sameV a args with
    | true => some v
    | false => lookP r args
theorem lookP_mem : ∀ {l : List (List V × V)} {args : List V} {v : V}, lookP l args = some v → (args, v) ∈ l
  | (a, u) :: r, args, v, h => by
    simp only [lookP] at h
    split at h
    · rename_i hs
      cases h
      rw [sameL_eq (fun a b => sameV_eq) _ _ hs]
      exact List.mem_cons_self ..
    · exact List.mem_cons_of_mem _ (lookP_mem h)
def knP (fn : Nat) (l : List (List V × V)) : Cl := fun f args s => match Nat.beq f fn with
  | true => (match lookP l args with
    | some v => some (v, s)
    | none => none)
  | false => none
theorem knP_ok {fn : Nat} {l : List (List V × V)} (hc : callOk P fn = true) (h : ∀ x ∈ l, PDen gt P fn x.1 x.2) : ClOk gt P (knP fn l) := fun f args s v s' hk => by
  unfold knP at hk
  split at hk
  · rename_i hb
    have := Nat.eq_of_beq_eq_true hb
    subst this
    split at hk
    · rename_i u hu
      cases hk
      exact ⟨hc, h _ (lookP_mem hu) _⟩
    · cases hk
  · cases hk

theorem PDen.run (hmo : P.follows .mixedOrders = true) {wf : Nat → Nat → Nat → Bool} {kn : Cl} (hkn : ClOk gt P kn) (hgt : GNm gt) {n d f : Nat} {args : List V} {v : V} (ha : args.all (nmB 8) = true) (hv : nmB 8 v = true) (h : (callA gt P wf kn n d f args s0).map (·.1) = some v) : PDen gt P f args v := by
  simp only [Option.map_eq_some_iff] at h
  obtain ⟨⟨v', s'⟩, h1, h2⟩ := h
  simp only at h2
  subst h2
  exact Den.pure hgt (fun x hx => nmB_ok 8 x (List.all_eq_true.1 ha x hx)) (nmB_ok 8 _ hv) (callA_ok hmo hkn n d _ _ _ _ _ h1).2
theorem PDen.ends (hmo : P.follows .mixedOrders = true) {wf : Nat → Nat → Nat → Bool} {kn call : Cl} (hkn : ClOk gt P kn) (hcall : ClOk gt P call) (hgt : GNm gt) {n f : Nat} {args : List V} {v : V} {c : Cfg} (ha : args.all (nmB 8) = true) (hv : nmB 8 v = true) (h : startA gt P wf kn call n f args s0 = some c) (h2 : Ends gt P wf kn call f v c) : PDen gt P f args v := by
  obtain ⟨s', hd⟩ := Ends.den hmo hkn hcall h h2
  exact Den.pure hgt (fun x hx => nmB_ok 8 x (List.all_eq_true.1 ha x hx)) (nmB_ok 8 _ hv) hd
end
end Rf
