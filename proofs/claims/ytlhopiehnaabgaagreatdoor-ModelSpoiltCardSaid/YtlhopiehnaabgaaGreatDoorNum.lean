/-
  Contracts: the reader's numbers. No statement stands here.
-/
import Derived.Test.YtlhopiehnaabgaaGreatDoorLE
import Derived.Test.YtlhopiehnaabgaaGreatDoorSame
set_option linter.all false
namespace Go.Proofs.YtlhopiehnaabgaaGreatDoor
open Go Rf
set_option maxRecDepth 100000
set_option maxHeartbeats 1000000

def bV (x : UInt8) : V := .i .u8 (x.toNat : Nat)
def bsV (l : List UInt8) : V := .pu 1 (l.map bV) .u
structure Upd (s s' : St) (l : Nat) (o : O) : Prop where
  n : s'.n = s.n
  g : s'.g = s.g
  o : s'.get l = some o
  r : ∀ m, m ≠ l → s'.get m = s.get m
theorem Upd.refl {s : St} {l : Nat} {o : O} (h : s.get l = some o) : Upd s s l o := ⟨rfl, rfl, h, fun _ _ => rfl⟩
theorem Upd.put {s s' : St} {l : Nat} {o : O} (h : Upd s s' l o) (o' : O) : Upd s (s'.put l (some o')) l o' :=
  ⟨by rw [St.put_n, h.n], by rw [St.put_g, h.g], St.get_put_same _ _ _, fun m hm => by rw [St.get_put_ne _ _ _ _ hm, h.r m hm]⟩
theorem Upd.end {s s' : St} {l : Nat} {o : O} (h : Upd s s' l o) (hg : Rf.Good s') : WkS s (s.put l (some o)) s' ∧ ((s.put l (some o)).L = s'.L) := by
  have hL : (s.put l (some o)).L = s'.L := by rw [St.put_L]; unfold St.L; rw [h.n, h.g]
  have hget : ∀ m x, (s.put l (some o)).get m = some x → s'.get m = some x := fun m x hx => by
    by_cases e : m = l
    · subst e; rw [St.get_put_same] at hx; rw [h.o]; exact hx
    · rw [St.get_put_ne _ _ _ _ e] at hx; rw [h.r m e]; exact hx
  exact ⟨⟨hget, fun m hm => by rw [St.put_n, ← h.n]; exact hg.2 m (by rw [h.g]; exact hm), fun m x hx => by rw [hL]; exact hg.1 m x (hget m x hx), .inl hL, .inl hL, .inl hL⟩, hL⟩

def rdO (bs : List UInt8) (at' : Nat) (t : Option Nat) : O := .c [bsV bs, .i .i64 (at' : Nat)] 0 t

end Go.Proofs.YtlhopiehnaabgaaGreatDoor
