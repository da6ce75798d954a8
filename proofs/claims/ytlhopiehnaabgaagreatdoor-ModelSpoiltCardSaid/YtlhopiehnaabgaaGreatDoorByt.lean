/-
  Contracts: a program's bytes. No statement stands here.
-/
import Derived.Test.YtlhopiehnaabgaaGreatDoorLE
import Derived.Test.YtlhopiehnaabgaaGreatDoorHigh
set_option linter.all false
namespace Go.Proofs.YtlhopiehnaabgaaGreatDoor
open Go Rf
set_option maxRecDepth 100000
set_option maxHeartbeats 4000000

def u8 (n : Int) : UInt8 := UInt8.ofNat (n % 256).toNat
def Bcc (z : St) (v : V) (xs : List UInt8) : Option Nat → Prop
  | none => v = .pu 1 (xs.map bV) (.x xs.length)
  | some k => v = .pu 1 (xs.map bV) (.t k) ∧ z.get k = some (.t xs.length)
theorem Bcc.vw {z : St} {v : V} {xs : List UInt8} {o : Option Nat} (h : Bcc z v xs o) : Vw1 v (bsV xs) := by
  cases o with
  | none => rw [show v = _ from h]; exact .pu 1 _ _
  | some k => rw [h.1]; exact .pu 1 _ _
theorem Bcc.keep {z z' : St} {v : V} {xs : List UInt8} {o : Option Nat} (h : Bcc z v xs o) (hs : ∀ k, o = some k → z'.get k = z.get k) : Bcc z' v xs o := by
  cases o with
  | none => exact h
  | some k => exact ⟨h.1, by rw [hs k rfl]; exact h.2⟩
theorem Bcc.ne {z : St} {v : V} {xs : List UInt8} {o : Option Nat} (h : Bcc z v xs o) {j zz : Nat} {cs : List V} {ty : Option Nat} (hj : z.get j = some (.c cs zz ty)) : o ≠ some j := fun e => by
  subst e
  have := h.2
  rw [hj] at this; cases this
theorem Bcc.putc {z : St} {v : V} {xs : List UInt8} {o : Option Nat} (h : Bcc z v xs o) {j zz : Nat} {cs : List V} {ty : Option Nat} (hj : z.get j = some (.c cs zz ty)) (w : Option O) : Bcc (z.put j w) v xs o :=
  h.keep fun k hk => St.get_put_ne _ _ _ _ fun e => by subst e; exact h.ne hj hk
theorem Bcc.newk {z : St} {v : V} {xs : List UInt8} {o : Option Nat} (h : Bcc z v xs o) (hg : Rf.Good z) (w : O) : Bcc (z.new w) v xs o :=
  h.keep fun k hk => St.get_new_ne _ _ _ (by subst hk; exact Nat.ne_of_lt (hg.1 _ _ h.2).1)
theorem bytes_chunks (ys : List UInt8) : chunks false 1 (((ys.map bV).map V.cells).flatten) ys.length = ys.map bV := by
  induction ys with
  | nil => rfl
  | cons y ys ih =>
    exact congrArg (fun l => bV y :: l) ih
theorem Bcc.app {s : St} {xs ys : List UInt8} {o : Option Nat} {e : List V} {x y : Arg} {v : V} {c : Cap} {t : Nat} (hg : Rf.Good s) (hx : x.ev e = v) (h : Bcc s v xs o) (hy : y.ev e = .pu 1 (ys.map bV) c) (hn : ys.length ≠ 0) (hr : room (xs.length + ys.length) 1 = true) {Q : V → St → Prop}
    (k : ∀ v' s' o', Bcc s' v' (xs ++ ys) o' → Rf.Good s' → (o' = o ∨ (o = none ∧ o' = some s.n)) → s.n ≤ s'.n → s'.g = s.g → (∀ j, o' ≠ some j → j < s.n → s'.get j = s.get j) → Q v' s') : ∃ v' s', aop e s (.app t true false 1 1 x y) = some (v', s') ∧ Q v' s' := by
  have hy' : srcOf s 1 (y.ev e) = some (ys.length, ((ys.map bV).map V.cells).flatten) := by rw [hy]; simp [srcOf]
  cases o with
  | none =>
    have hv : v = .pu 1 (xs.map bV) (.x xs.length) := h
    refine ⟨.pu 1 ((xs ++ ys).map bV) (.t s.n), s.new (.t (xs ++ ys).length), ?_, k _ _ (some s.n) ⟨rfl, St.get_new_same _ _⟩ hg.new (.inr ⟨rfl, rfl⟩) (Nat.le_succ _) rfl fun j _ hlt => ?_⟩
    · simp only [aop, hy', hx, hv, appV, bytes_chunks]
      simp [hn, hr]
    · rw [St.get_new_ne _ _ _ (Nat.ne_of_lt hlt)]
  | some q =>
    obtain ⟨hv, hk⟩ := h
    refine ⟨.pu 1 ((xs ++ ys).map bV) (.t q), s.put q (some (.t (xs ++ ys).length)), ?_, k _ _ (some q) ⟨rfl, St.get_put_same _ _ _⟩ (hg.put hk) (.inl rfl) (Nat.le_refl _) rfl fun j hj _ => ?_⟩
    · simp only [aop, hy', hx, hv, appV, bytes_chunks]
      simp [hn, hr, hk]
    · rw [St.get_put_ne _ _ _ _ (fun e => hj (by rw [e]))]
structure YI (s z : St) (ov : V) (xs : List UInt8) (tk : Option Nat) : Prop where
  w : Grow s z
  a : Bcc z ov xs tk
  g : Rf.Good z
  tn : ∀ k, tk = some k → s.n ≤ k
theorem YI.new {s z : St} {ov : V} {xs : List UInt8} {tk : Option Nat} (h : YI s z ov xs tk) (o : O) : YI s (z.new o) ov xs tk := ⟨h.w.new o, h.a.newk h.g o, h.g.new, h.tn⟩
theorem YI.app {s z : St} {ov : V} {xs ys : List UInt8} {tk : Option Nat} (h : YI s z ov xs tk) {e : List V} {x y : Arg} {c : Cap} {t : Nat} (hx : x.ev e = ov) (hy : y.ev e = .pu 1 (ys.map bV) c) (hn : ys.length ≠ 0) (hr : room (xs.length + ys.length) 1 = true) {Q : V → St → Prop}
    (k : ∀ v' s' o', YI s s' v' (xs ++ ys) o' → (∀ X cs zz ty, z.get X = some (.c cs zz ty) → s'.get X = some (.c cs zz ty)) → Q v' s') : ∃ v' s', aop e z (.app t true false 1 1 x y) = some (v', s') ∧ Q v' s' :=
  Bcc.app h.g hx h.a hy hn hr fun v' s' o' hA hg hor hn' hgg hfr => k v' s' o' (by
    have htn : ∀ q, o' = some q → s.n ≤ q := fun q hq => by
      rcases hor with h1 | ⟨-, h1⟩
      · exact h.tn q (by rw [← h1]; exact hq)
      · rw [h1] at hq; cases hq; exact h.w.n
    exact ⟨⟨Nat.le_trans h.w.n hn', by rw [hgg, h.w.g], fun m hm => by
      rw [hfr m (fun e => by have := htn m e; omega) (Nat.lt_of_lt_of_le hm h.w.n)]; exact h.w.r m hm⟩, hA, hg, htn⟩) (fun X cs zz ty hX => by
    rw [hfr X (fun e1 => by
      rcases hor with h1 | ⟨-, h1⟩
      · rw [h1] at e1; exact h.a.ne hX e1
      · rw [h1] at e1; cases e1; exact Nat.lt_irrefl _ (h.g.1 _ _ hX).1) (h.g.1 _ _ hX).1]; exact hX)

end Go.Proofs.YtlhopiehnaabgaaGreatDoor
