/-
  Contracts: operations' words, whose numbers are named: run with open numbers. No statement stands here.
-/
import Derived.Test.YtlhopiehnaabgaaGreatDoorNum
set_option linter.all false
namespace Go.Proofs.YtlhopiehnaabgaaGreatDoor
open Go Rf
set_option maxRecDepth 100000

def nbN : Nat → Bool
  | 0 => false
  | 1 => true
  | 2 => true
  | 3 => true
  | 4 => false
  | 5 => false
  | 6 => false
  | 7 => false
  | 8 => false
  | 9 => false
  | 10 => false
  | 11 => false
  | 12 => false
  | 13 => true
  | 14 => true
  | 15 => true
  | 16 => false
  | 17 => false
  | _ + 18 => false
def nb : Int → Bool
  | .ofNat n => nbN n
  | .negSucc _ => false
def wdN : Nat → List UInt8
  | 0 => []
  | 1 => [112, 117, 115, 104]
  | 2 => [108, 111, 97, 100]
  | 3 => [115, 116, 111, 114, 101]
  | 4 => [116, 105, 109, 101]
  | 5 => [100, 97, 116, 97]
  | 6 => [115, 101, 108, 102]
  | 7 => [114, 97, 110, 100]
  | 8 => [97, 100, 100]
  | 9 => [115, 117, 98]
  | 10 => [109, 117, 108]
  | 11 => [108, 101, 115, 115]
  | 12 => [115, 97, 109, 101]
  | 13 => [106, 117, 109, 112]
  | 14 => [122, 101, 114, 111]
  | 15 => [115, 101, 110, 100]
  | 16 => [116, 101, 108, 108]
  | 17 => [101, 110, 100]
  | _ + 18 => []
def wd : Int → List UInt8
  | .ofNat n => wdN n
  | .negSucc _ => []
theorem op_split {p : Int → Prop} (hn : ∀ n, p (.negSucc n)) (hb : ∀ n, p (.ofNat (n + 18)))
    (h0 : p (.ofNat 0)) (h1 : p (.ofNat 1)) (h2 : p (.ofNat 2)) (h3 : p (.ofNat 3)) (h4 : p (.ofNat 4)) (h5 : p (.ofNat 5)) (h6 : p (.ofNat 6)) (h7 : p (.ofNat 7)) (h8 : p (.ofNat 8)) (h9 : p (.ofNat 9)) (h10 : p (.ofNat 10)) (h11 : p (.ofNat 11)) (h12 : p (.ofNat 12)) (h13 : p (.ofNat 13)) (h14 : p (.ofNat 14)) (h15 : p (.ofNat 15)) (h16 : p (.ofNat 16)) (h17 : p (.ofNat 17)) (o : Int) : p o := by
  cases o with
  | negSucc n => exact hn n
  | ofNat n =>
    match n with
    | 0 => exact h0
    | 1 => exact h1
    | 2 => exact h2
    | 3 => exact h3
    | 4 => exact h4
    | 5 => exact h5
    | 6 => exact h6
    | 7 => exact h7
    | 8 => exact h8
    | 9 => exact h9
    | 10 => exact h10
    | 11 => exact h11
    | 12 => exact h12
    | 13 => exact h13
    | 14 => exact h14
    | 15 => exact h15
    | 16 => exact h16
    | 17 => exact h17
    | n + 18 => exact hb n
theorem pden_of {f : Nat} {args : List V} {v : V} (ha : ∀ x ∈ args, Nm s0.L x) (hv : Nm s0.L v) (h : (evFT tbB 1000 1000 f args s0).map (·.1) = some v) : PDen gt0 Tryz.prog f args v := by
  obtain ⟨s', hd⟩ := den_of h
  exact Den.pure gnm0 ha hv hd
theorem nmi {L : Nat → Prop} (o : Int) : ∀ x ∈ [V.i .i64 o], Nm L x := fun x hx => by
  simp only [List.mem_singleton] at hx; subst hx; exact .i _ _
theorem nb_den (o : Int) : PDen gt0 Tryz.prog 59 [.i .i64 o] (.b (nb o)) :=
  pden_of (nmi o) (.b _) (op_split (p := fun o => (evFT tbB 1000 1000 59 [.i .i64 o] s0).map (·.1) = some (.b (nb o))) (fun n => by kernel_rfl) (fun n => by kernel_rfl)
    (by kernel_rfl) (by kernel_rfl) (by kernel_rfl) (by kernel_rfl) (by kernel_rfl) (by kernel_rfl) (by kernel_rfl) (by kernel_rfl) (by kernel_rfl) (by kernel_rfl) (by kernel_rfl) (by kernel_rfl) (by kernel_rfl) (by kernel_rfl) (by kernel_rfl) (by kernel_rfl) (by kernel_rfl) (by kernel_rfl) o)
theorem rnb_den (o : Int) : PDen gt0 Tryz.prog 49 [.i .i64 o] (.b (nb o)) :=
  pden_of (nmi o) (.b _) (op_split (p := fun o => (evFT tbB 1000 1000 49 [.i .i64 o] s0).map (·.1) = some (.b (nb o))) (fun n => by kernel_rfl) (fun n => by kernel_rfl)
    (by kernel_rfl) (by kernel_rfl) (by kernel_rfl) (by kernel_rfl) (by kernel_rfl) (by kernel_rfl) (by kernel_rfl) (by kernel_rfl) (by kernel_rfl) (by kernel_rfl) (by kernel_rfl) (by kernel_rfl) (by kernel_rfl) (by kernel_rfl) (by kernel_rfl) (by kernel_rfl) (by kernel_rfl) (by kernel_rfl) o)
theorem wd_den (o : Int) : PDen gt0 Tryz.prog 63 [.i .i64 o] (.s (wd o)) :=
  pden_of (nmi o) (.s _) (op_split (p := fun o => (evFT tbB 1000 1000 63 [.i .i64 o] s0).map (·.1) = some (.s (wd o))) (fun n => by kernel_rfl) (fun n => by kernel_rfl)
    (by kernel_rfl) (by kernel_rfl) (by kernel_rfl) (by kernel_rfl) (by kernel_rfl) (by kernel_rfl) (by kernel_rfl) (by kernel_rfl) (by kernel_rfl) (by kernel_rfl) (by kernel_rfl) (by kernel_rfl) (by kernel_rfl) (by kernel_rfl) (by kernel_rfl) (by kernel_rfl) (by kernel_rfl) (by kernel_rfl) o)
theorem rwd_den (o : Int) : PDen gt0 Tryz.prog 48 [.i .i64 o] (.s (wd o)) :=
  pden_of (nmi o) (.s _) (op_split (p := fun o => (evFT tbB 1000 1000 48 [.i .i64 o] s0).map (·.1) = some (.s (wd o))) (fun n => by kernel_rfl) (fun n => by kernel_rfl)
    (by kernel_rfl) (by kernel_rfl) (by kernel_rfl) (by kernel_rfl) (by kernel_rfl) (by kernel_rfl) (by kernel_rfl) (by kernel_rfl) (by kernel_rfl) (by kernel_rfl) (by kernel_rfl) (by kernel_rfl) (by kernel_rfl) (by kernel_rfl) (by kernel_rfl) (by kernel_rfl) (by kernel_rfl) (by kernel_rfl) o)
end Go.Proofs.YtlhopiehnaabgaaGreatDoor
