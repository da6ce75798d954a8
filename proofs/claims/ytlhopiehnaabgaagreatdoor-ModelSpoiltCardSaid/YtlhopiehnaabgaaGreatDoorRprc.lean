/-
  Contracts: the reader's program. No statement stands here.
-/
import Derived.Test.YtlhopiehnaabgaaGreatDoorLE
import Derived.Test.YtlhopiehnaabgaaGreatDoorOps
set_option linter.all false
namespace Go.Proofs.YtlhopiehnaabgaaGreatDoor
open Go Rf
set_option maxRecDepth 100000
set_option maxHeartbeats 2000000

/-! what bytes are read as -/
/-! the state while it is read -/
structure PI (s z : St) (l N : Nat) (bs : List UInt8) (a : Nat) (t : Option Nat) (v : Int) (pkv : V) (ks : List Kd) (tk : Option Nat) : Prop where
  u : Ups s z l (rdO bs a t)
  n : z.get N = some (.c [.i .i64 v, pkv] 0 (some 48))
  a : Acc z 1 pkv (ks.map kV) tk
  g : Rf.Good z
  hN : s.n ≤ N
  hl : l < s.n
  tn : ∀ k, tk = some k → s.n ≤ k
section
variable {s z : St} {l N : Nat} {bs : List UInt8} {a : Nat} {t : Option Nat} {v : Int} {pkv : V} {ks : List Kd} {tk : Option Nat}
theorem PI.lz (h : PI s z l N bs a t v pkv ks tk) : l < z.n := Nat.lt_of_lt_of_le h.hl h.u.n
theorem PI.new (h : PI s z l N bs a t v pkv ks tk) (o : O) : PI s (z.new o) l N bs a t v pkv ks tk :=
  ⟨h.u.new h.lz o, by rw [St.get_new_ne _ _ _ (Nat.ne_of_lt (h.g.1 N _ h.n).1)]; exact h.n, h.a.newk h.g o, h.g.new, h.hN, h.hl, h.tn⟩
theorem PI.row (h : PI s z l N bs a t v pkv ks tk) {z' : St} {o' : Option Nat} (hg : Rf.Good z') (hn : z.n ≤ z'.n) (hgg : z'.g = z.g) (hfr : ∀ j, o' ≠ some j → j < z.n → z'.get j = z.get j) (h1 : ∀ k, tk = some k → o' ≠ some k) (hl' : o' ≠ some l) (hN' : o' ≠ some N) (h4 : ∀ k, o' = some k → s.n ≤ k) : PI s z' l N bs a t v pkv ks tk := by
  have hNn := (h.g.1 N _ h.n).1
  refine ⟨⟨Nat.le_trans h.u.n hn, by rw [hgg, h.u.g], by rw [hfr l hl' h.lz]; exact h.u.o, fun m hm hml => ?_⟩, by rw [hfr N hN' hNn]; exact h.n, h.a.keep fun k hk => hfr k (h1 k hk) (by subst hk; exact h.a.lt h.g), hg, h.hN, h.hl, h.tn⟩
  rw [hfr m (fun e => by have := h4 m e; omega) (Nat.lt_of_lt_of_le hm h.u.n)]
  exact h.u.r m hm hml
end
theorem PI.box {s z : St} {l N : Nat} {bs : List UInt8} {a : Nat} {t : Option Nat} {v : Int} {pkv : V} {ks : List Kd} {tk : Option Nat} (h : PI s z l N bs a t v pkv ks tk) {v' : Int} {pkv' : V} {ks' : List Kd} {tk' : Option Nat} (hA : Acc z 1 pkv' (ks'.map kV) tk') (htn : ∀ k, tk' = some k → s.n ≤ k) :
    PI s (z.put N (some (.c [.i .i64 v', pkv'] 0 (some 48)))) l N bs a t v' pkv' ks' tk' :=
  ⟨h.u.put2 h.hN h.hl _, St.get_put_same _ _ _, hA.putc h.n _, h.g.put h.n, h.hN, h.hl, htn⟩
theorem PI.push {s z : St} {l N : Nat} {bs : List UInt8} {a : Nat} {t : Option Nat} {v : Int} {pkv : V} {ks : List Kd} {tk : Option Nat} (h : PI s z l N bs a t v pkv ks tk) {z' : St} {pkv' : V} {ks' : List Kd} {tk' : Option Nat} (hA : Acc z' 1 pkv' (ks'.map kV) tk') (hg : Rf.Good z')
    (hor : tk' = tk ∨ (tk = none ∧ tk' = some z.n)) (hn : z.n ≤ z'.n) (hgg : z'.g = z.g) (hfr : ∀ j, tk' ≠ some j → j < z.n → z'.get j = z.get j) :
    z'.get N = some (.c [.i .i64 v, pkv] 0 (some 48)) ∧ PI s (z'.put N (some (.c [.i .i64 v, pkv'] 0 (some 48)))) l N bs a t v pkv' ks' tk' := by
  have hNn := (h.g.1 N _ h.n).1
  have hl' : tk' ≠ some l := fun e => by
    rcases hor with h1 | ⟨-, h1⟩
    · rw [h1] at e; exact h.a.ne h.u.o e
    · rw [h1] at e; cases e; exact Nat.lt_irrefl _ h.lz
  have hN' : tk' ≠ some N := fun e => by
    rcases hor with h1 | ⟨-, h1⟩
    · rw [h1] at e; exact h.a.ne h.n e
    · rw [h1] at e; cases e; exact Nat.lt_irrefl _ hNn
  have htn : ∀ q, tk' = some q → s.n ≤ q := fun q hq => by
    rcases hor with h1 | ⟨-, h1⟩
    · exact h.tn q (by rw [← h1]; exact hq)
    · rw [h1] at hq; cases hq; exact h.u.n
  have hzN : z'.get N = some (.c [.i .i64 v, pkv] 0 (some 48)) := by rw [hfr N hN' hNn]; exact h.n
  have hU : Ups s z' l (rdO bs a t) := ⟨Nat.le_trans h.u.n hn, by rw [hgg, h.u.g], by rw [hfr l hl' h.lz]; exact h.u.o, fun m hm hml => by
    rw [hfr m (fun e => by have := htn m e; omega) (Nat.lt_of_lt_of_le hm h.u.n)]; exact h.u.r m hm hml⟩
  exact ⟨hzN, hU.put2 h.hN h.hl _, St.get_put_same _ _ _, hA.putc hzN _, hg.put hzN, h.hN, h.hl, htn⟩
end Go.Proofs.YtlhopiehnaabgaaGreatDoor
