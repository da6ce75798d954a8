/-
  Contracts: bytes read by the other road. No statement stands here.
-/
import Derived.Test.YtlhopiehnaabgaaGreatDoorLE
import Derived.Test.YtlhopiehnaabgaaGreatDoorNumb
set_option linter.all false
namespace Go.Proofs.YtlhopiehnaabgaaGreatDoor
open Go Rf
set_option maxRecDepth 100000
set_option maxHeartbeats 4000000

abbrev zR : O := .c [.i .i64 0, .ns] 0 (some 48)
structure QI (s z : St) (R N : Nat) (v : Int) (pkv : V) (ks : List Kd) (tk : Option Nat) : Prop where
  w : Grow s z
  r : z.get R = some zR
  n : z.get N = some (.c [.i .i64 v, pkv] 0 (some 48))
  a : Acc z 1 pkv (ks.map kV) tk
  g : Rf.Good z
  hR : s.n ≤ R
  hN : s.n ≤ N
  ne : R ≠ N
  tn : ∀ k, tk = some k → s.n ≤ k
section
variable {s z : St} {R N : Nat} {v : Int} {pkv : V} {ks : List Kd} {tk : Option Nat}
theorem QI.new (h : QI s z R N v pkv ks tk) (o : O) : QI s (z.new o) R N v pkv ks tk :=
  ⟨h.w.new o, by rw [St.get_new_ne _ _ _ (Nat.ne_of_lt (h.g.1 R _ h.r).1)]; exact h.r, by rw [St.get_new_ne _ _ _ (Nat.ne_of_lt (h.g.1 N _ h.n).1)]; exact h.n, h.a.newk h.g o, h.g.new, h.hR, h.hN, h.ne, h.tn⟩
theorem QI.app (h : QI s z R N v pkv ks tk) {kv : V} {xs : List V} {tk2 : Option Nat} (hA : Acc z 2 kv xs tk2) (ht2 : ∀ q, tk2 = some q → s.n ≤ q) (ht3 : ∀ q, tk = some q → tk2 ≠ some q) {z' : St} {tk' : Option Nat} (hg : Rf.Good z') (hor : tk' = tk2 ∨ (tk2 = none ∧ tk' = some z.n)) (hn : z.n ≤ z'.n) (hgg : z'.g = z.g) (hfr : ∀ j, tk' ≠ some j → j < z.n → z'.get j = z.get j) :
    QI s z' R N v pkv ks tk ∧ (∀ q, tk' = some q → s.n ≤ q) ∧ (∀ q, tk = some q → tk' ≠ some q) := by
  have hNn := (h.g.1 N _ h.n).1
  have hRn := (h.g.1 R _ h.r).1
  have h1 : ∀ q, tk' = some q → s.n ≤ q := fun q hq => by
    rcases hor with e | ⟨-, e⟩
    · exact ht2 q (by rw [← e]; exact hq)
    · rw [e] at hq; cases hq; exact h.w.n
  have h2 : ∀ q, tk = some q → tk' ≠ some q := fun q hq e1 => by
    rcases hor with e | ⟨-, e⟩
    · exact ht3 q hq (by rw [← e]; exact e1)
    · rw [e] at e1; cases e1
      have h8 := h.a
      rw [hq] at h8
      exact Nat.lt_irrefl _ (h8.lt h.g)
  have h3 : ∀ {J : Nat} {cs : List V} {zz : Nat} {ty : Option Nat}, z.get J = some (.c cs zz ty) → tk' ≠ some J := fun {J cs zz ty} hJ e1 => by
    rcases hor with e | ⟨-, e⟩
    · rw [e] at e1; exact hA.ne hJ e1
    · rw [e] at e1; cases e1; exact Nat.lt_irrefl _ (h.g.1 _ _ hJ).1
  refine ⟨⟨⟨Nat.le_trans h.w.n hn, by rw [hgg, h.w.g], fun m hm => ?_⟩, by rw [hfr R (h3 h.r) hRn]; exact h.r, by rw [hfr N (h3 h.n) hNn]; exact h.n, h.a.keep fun k hk => hfr k (h2 k hk) (by subst hk; exact h.a.lt h.g), hg, h.hR, h.hN, h.ne, h.tn⟩, h1, h2⟩
  rw [hfr m (fun e => by have := h1 m e; omega) (Nat.lt_of_lt_of_le hm h.w.n)]
  exact h.w.r m hm
theorem QI.push (h : QI s z R N v pkv ks tk) {z' : St} {pkv' : V} {ks' : List Kd} {tk' : Option Nat} (hA : Acc z' 1 pkv' (ks'.map kV) tk') (hg : Rf.Good z')
    (hor : tk' = tk ∨ (tk = none ∧ tk' = some z.n)) (hn : z.n ≤ z'.n) (hgg : z'.g = z.g) (hfr : ∀ j, tk' ≠ some j → j < z.n → z'.get j = z.get j) :
    z'.get N = some (.c [.i .i64 v, pkv] 0 (some 48)) ∧ QI s (z'.put N (some (.c [.i .i64 v, pkv'] 0 (some 48)))) R N v pkv' ks' tk' := by
  have hNn := (h.g.1 N _ h.n).1
  have hRn := (h.g.1 R _ h.r).1
  have h3 : ∀ {J : Nat} {cs : List V} {zz : Nat} {ty : Option Nat}, z.get J = some (.c cs zz ty) → tk' ≠ some J := fun {J cs zz ty} hJ e1 => by
    rcases hor with e | ⟨-, e⟩
    · rw [e] at e1; exact h.a.ne hJ e1
    · rw [e] at e1; cases e1; exact Nat.lt_irrefl _ (h.g.1 _ _ hJ).1
  have htn : ∀ q, tk' = some q → s.n ≤ q := fun q hq => by
    rcases hor with h1 | ⟨-, h1⟩
    · exact h.tn q (by rw [← h1]; exact hq)
    · rw [h1] at hq; cases hq; exact h.w.n
  have hzN : z'.get N = some (.c [.i .i64 v, pkv] 0 (some 48)) := by rw [hfr N (h3 h.n) hNn]; exact h.n
  have hzR : z'.get R = some zR := by rw [hfr R (h3 h.r) hRn]; exact h.r
  have hG : Grow s z' := ⟨Nat.le_trans h.w.n hn, by rw [hgg, h.w.g], fun m hm => by
    rw [hfr m (fun e => by have := htn m e; omega) (Nat.lt_of_lt_of_le hm h.w.n)]; exact h.w.r m hm⟩
  exact ⟨hzN, hG.put h.hN _, by rw [St.get_put_ne _ _ _ _ h.ne]; exact hzR, St.get_put_same _ _ _, hA.putc hzN _, hg.put hzN, h.hR, h.hN, h.ne, htn⟩
end

end Go.Proofs.YtlhopiehnaabgaaGreatDoor
