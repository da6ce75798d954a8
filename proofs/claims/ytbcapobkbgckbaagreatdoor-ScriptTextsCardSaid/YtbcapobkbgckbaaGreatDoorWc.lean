/-
  Contracts: the document's words and forms of entries. No statement stands here.
-/
import Derived.Test.YtbcapobkbgckbaaGreatDoorCodA
import Derived.Test.YtbcapobkbgckbaaGreatDoorSpl
import Derived.Test.YtbcapobkbgckbaaGreatDoorLF
set_option linter.all false
namespace Go.Proofs.YtbcapobkbgckbaaGreatDoor
open Go Rf
set_option maxRecDepth 100000
set_option maxHeartbeats 4000000

def bV (x : UInt8) : V := .i .u8 (x.toNat : Nat)
def bsV (l : List UInt8) : V := .pu 1 (l.map bV) .u
def eyV (e : Ey) : V := .ag [.i .i64 e.k, .i .i64 e.a, .i .i64 e.n, bsV e.b]
theorem nm1 {L : Nat → Prop} {v : V} (h : Nm L v) : ∀ x ∈ [v], Nm L x := fun x hx => by simp only [List.mem_singleton] at hx; subst hx; exact h
theorem nm2 {L : Nat → Prop} {v u : V} (h : Nm L v) (h' : Nm L u) : ∀ x ∈ [v, u], Nm L x := fun x hx => by
  simp only [List.mem_cons, List.not_mem_nil, or_false] at hx
  rcases hx with rfl | rfl
  · exact h
  · exact h'
theorem stays_one {gt : Nat → Option V} {P : Program} {e : List V} {v : V} {t s' : St} {l : List St} {y : A} (h : aop e t y = some (v, s')) : stays gt P e v (.a y) (List.take 1 (t :: l)) := by
  simp only [List.take, stays, h, and_self]
theorem mayF_f {f : Fm} {e : Ey} (h : ¬ (0 ≤ e.a ∧ e.a ≤ 2147483647 ∧ (f.a = true ∨ e.a ≤ 0) ∧ (f.n = true ∨ e.n = 0) ∧ (f.b = true ↔ 0 < e.b.length) ∧ e.b.length ≤ 65536 ∧ (f.n = false ∨ (f.l ≤ e.n ∧ (f.l < 0 ∨ e.n ≤ 2147483647))))) : mayF f e = false := Bool.eq_false_iff.2 fun hm => h (mayF_iff.1 hm)
def woV (k : Int) : V := match fmS k with
  | none => .tu [.s [], .s []]
  | some f => .tu [.s f.w, .s (whF f)]
theorem word_den (k : Int) : PDen gt0 Tryz.prog 15 [.i .i64 k] (woV k) := by
  have hn : ∀ a b, Nm s0.L (.tu [.s a, .s b]) := fun a b => .tu _ (nm2 (.s _) (.s _))
  have hv : Nm s0.L (woV k) := by unfold woV; split <;> exact hn _ _
  rcases fmS_cases k with ⟨h, h1⟩ | ⟨rfl, h1⟩ | ⟨rfl, h1⟩ | ⟨rfl, h1⟩ | ⟨rfl, h1⟩ | ⟨rfl, h1⟩ | ⟨rfl, h1⟩ | ⟨rfl, h1⟩ | ⟨rfl, h1⟩ | ⟨rfl, h1⟩
  · refine PDen.hc gnm0 hF15 (nm1 (.i _ _)) hv ?_
    have hz : ∀ j : Int, 1 ≤ j → j ≤ 9 → eqZ k j = false := fun j h1 h2 => by rw [eqZ_eq]; simp; omega
    conv => whnf
    refine sgo ?_
    rw [hz 1 (by decide) (by decide)]
    conv => whnf
    refine sgo ?_
    rw [hz 2 (by decide) (by decide)]
    conv => whnf
    refine sgo ?_
    rw [hz 3 (by decide) (by decide)]
    conv => whnf
    refine sgo ?_
    rw [hz 4 (by decide) (by decide)]
    conv => whnf
    refine sgo ?_
    rw [hz 5 (by decide) (by decide)]
    conv => whnf
    refine sgo ?_
    rw [hz 6 (by decide) (by decide)]
    conv => whnf
    refine sgo ?_
    rw [hz 7 (by decide) (by decide)]
    conv => whnf
    refine sgo ?_
    rw [hz 8 (by decide) (by decide)]
    conv => whnf
    refine sgo ?_
    rw [hz 9 (by decide) (by decide)]
    conv => whnf
    refine sgo ?_
    rw [woV, h1]; rfl
  all_goals
    refine PDen.hc gnm0 hF15 (nm1 (.i _ _)) hv ?_
    conv => whnf
    refine sgo ?_
    rfl
theorem has_of {l : List UInt8} {c : Int} {b : Bool} (h : (evFT tbB 200 200 16 [.s l, .i .u8 c] s0).map (·.1) = some (.b b)) : PDen gt0 Tryz.prog 16 [.s l, .i .u8 c] (.b b) := by
  obtain ⟨s', h⟩ := den_of h
  exact fun s => h.pure gnm0 (nm2 (.s _) (.i _ _)) (.b _) s
theorem has_den (k : Int) (f : Fm) (h : fmS k = some f) : PDen gt0 Tryz.prog 16 [.s (whF f), .i .u8 97] (.b f.a) ∧ PDen gt0 Tryz.prog 16 [.s (whF f), .i .u8 110] (.b f.n) ∧ PDen gt0 Tryz.prog 16 [.s (whF f), .i .u8 98] (.b f.b) := by
  rcases fmS_cases k with ⟨-, h1⟩ | ⟨rfl, h1⟩ | ⟨rfl, h1⟩ | ⟨rfl, h1⟩ | ⟨rfl, h1⟩ | ⟨rfl, h1⟩ | ⟨rfl, h1⟩ | ⟨rfl, h1⟩ | ⟨rfl, h1⟩ | ⟨rfl, h1⟩ <;> rw [h1] at h <;> cases h
  all_goals exact ⟨has_of (by kernel_rfl), has_of (by kernel_rfl), has_of (by kernel_rfl)⟩
end Go.Proofs.YtbcapobkbgckbaaGreatDoor
