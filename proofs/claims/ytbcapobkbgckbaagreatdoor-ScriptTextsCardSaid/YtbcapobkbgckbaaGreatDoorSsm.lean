/-
  Contracts: a script is the same as itself, by both roads. No statement stands here.
-/
import Derived.Test.YtbcapobkbgckbaaGreatDoorCodB
import Derived.Test.YtbcapobkbgckbaaGreatDoorWc
import Derived.Test.YtbcapobkbgckbaaGreatDoorLF
set_option linter.all false
namespace Go.Proofs.YtbcapobkbgckbaaGreatDoor
open Go Rf
set_option maxRecDepth 100000
set_option maxHeartbeats 4000000

theorem eqZ_self (a : Int) : eqZ a a = true := by rw [eqZ_eq]; simp
def slS (l : List Ey) : V := .pu 4 (l.map eyV) .u
def EB6 (b : List UInt8) (i : Nat) : List V := (bsV b :: bsV b :: .bad :: .bad :: .bad :: .bad :: .bad :: .bad :: .bad :: .bad :: .bad :: bsV b :: .i .i64 (b.length : Nat) :: .i .i64 (i : Nat) :: List.replicate 12 .bad)
theorem beq_den (b : List UInt8) (hb : b.length ≤ 100000) (s : St) (hx : NoX s) : Den gt0 Tryz.prog 26 [bsV b, bsV b] s (.b true) s := by
  have hl : (b.map bV).length = b.length := List.length_map ..
  refine Den.tidy fun ht => Den.hm gnm0 hF26 ?_
  have K := Kn.init ht.1 hx
  conv => whnf
  refine kgo ?_; (repeat (first | intro (X:Nat) | intro (z:St) | intro (av:V) | intro (tk:Option Nat) | (intro (K1:Kn _ _ _); (try clear K); rename Kn _ _ _ => K))); conv => whnf
  rw [eqZ_self]
  conv => whnf
  refine kgo ?_; (repeat (first | intro (X:Nat) | intro (z:St) | intro (av:V) | intro (tk:Option Nat) | (intro (K1:Kn _ _ _); (try clear K); rename Kn _ _ _ => K))); conv => whnf
  rw [hl]
  refine HM.loop gnm0 fun hg => ⟨fun m ev z' => ∃ i : Nat, i ≤ b.length ∧ m = b.length - i ∧ ev = EB6 b i ∧ Kn s z' [],
    ⟨b.length, fg [0, 1, 11, 12, 13] _, _, WkM.fg hg, 0, Nat.zero_le _, rfl, rfl, K⟩, ?_⟩
  clear K
  rintro m ev z1 ⟨i, hi, rfl, rfl, K⟩
  conv => whnf
  refine kgo ?_; (repeat (first | intro (X:Nat) | intro (z:St) | intro (av:V) | intro (tk:Option Nat) | (intro (K1:Kn _ _ _); (try clear K); rename Kn _ _ _ => K))); conv => whnf
  refine brL ⟨fun hlt => ?_, fun hge => ?_⟩ <;> conv => whnf
  · have hbi : b[i]? = some b[i] := List.getElem?_eq_getElem hlt
    generalize b[i] = x at hbi
    refine kgo ?_; (repeat (first | intro (X:Nat) | intro (z:St) | intro (av:V) | intro (tk:Option Nat) | (intro (K1:Kn _ _ _); (try clear K); rename Kn _ _ _ => K))); conv => whnf
    rw [eqZ_self]
    conv => whnf
    refine kgo ?_; (repeat (first | intro (X:Nat) | intro (z:St) | intro (av:V) | intro (tk:Option Nat) | (intro (K1:Kn _ _ _); (try clear K); rename Kn _ _ _ => K))); conv => whnf
    intro hg'
    exact ⟨b.length - (i + 1), fg [0, 1, 11, 12, 13] _, _, by omega, WkM.fg hg', i + 1, hlt, rfl, rfl, K⟩
  · refine kgo ?_; (repeat (first | intro (X:Nat) | intro (z:St) | intro (av:V) | intro (tk:Option Nat) | (intro (K1:Kn _ _ _); (try clear K); rename Kn _ _ _ => K))); conv => whnf
    exact K.fin ht hx (.b _) (.refl _)
theorem eeq_den (e : Ey) (hb : e.b.length ≤ 100000) (s : St) (hx : NoX s) : Den gt0 Tryz.prog 25 [eyV e, eyV e] s (.b true) s := by
  refine Den.tidy fun ht => Den.hm gnm0 hF25 ?_
  have K := Kn.init ht.1 hx
  conv => whnf
  refine kgo ?_; (repeat (first | intro (X:Nat) | intro (z:St) | intro (av:V) | intro (tk:Option Nat) | (intro (K1:Kn _ _ _); (try clear K); rename Kn _ _ _ => K))); conv => whnf
  rw [eqZ_self]
  conv => whnf
  refine kgo ?_; (repeat (first | intro (X:Nat) | intro (z:St) | intro (av:V) | intro (tk:Option Nat) | (intro (K1:Kn _ _ _); (try clear K); rename Kn _ _ _ => K))); conv => whnf
  rw [eqZ_self]
  conv => whnf
  refine kgo ?_; (repeat (first | intro (X:Nat) | intro (z:St) | intro (av:V) | intro (tk:Option Nat) | (intro (K1:Kn _ _ _); (try clear K); rename Kn _ _ _ => K))); conv => whnf
  rw [eqZ_self]
  conv => whnf
  refine kgo ?_; (repeat (first | intro (X:Nat) | intro (z:St) | intro (av:V) | intro (tk:Option Nat) | (intro (K1:Kn _ _ _); (try clear K); rename Kn _ _ _ => K))); conv => whnf
  refine ⟨_, _, beq_den e.b hb _ K.x, ?_⟩
  conv => whnf
  refine kgo ?_; (repeat (first | intro (X:Nat) | intro (z:St) | intro (av:V) | intro (tk:Option Nat) | (intro (K1:Kn _ _ _); (try clear K); rename Kn _ _ _ => K))); conv => whnf
  exact K.fin ht hx (.b _) (.refl _)
def ES4 (l : List Ey) (i : Nat) : List V := (slS l :: slS l :: .fn 25 [] :: .bad :: .bad :: .bad :: .bad :: .bad :: .bad :: .bad :: .bad :: .bad :: .bad :: .bad :: .bad :: slS l :: .i .i64 (l.length : Nat) :: .i .i64 (i : Nat) :: List.replicate 14 .bad)
theorem feq_den (l : List Ey) (hl : l.length ≤ 100000) (hb : ∀ e ∈ l, e.b.length ≤ 100000) (s : St) (hx : NoX s) : Den gt0 Tryz.prog 24 [slS l, slS l, .fn 25 []] s (.b true) s := by
  have hll : (l.map eyV).length = l.length := List.length_map ..
  have hc : callOk Tryz.prog 25 = true := by kernel_rfl
  refine Den.tidy fun ht => Den.hm gnm0 hF24 ?_
  have K := Kn.init ht.1 hx
  conv => whnf
  refine kgo ?_; (repeat (first | intro (X:Nat) | intro (z:St) | intro (av:V) | intro (tk:Option Nat) | (intro (K1:Kn _ _ _); (try clear K); rename Kn _ _ _ => K))); conv => whnf
  rw [eqZ_self]
  conv => whnf
  refine kgo ?_; (repeat (first | intro (X:Nat) | intro (z:St) | intro (av:V) | intro (tk:Option Nat) | (intro (K1:Kn _ _ _); (try clear K); rename Kn _ _ _ => K))); conv => whnf
  rw [hll]
  refine HM.loop gnm0 fun hg => ⟨fun m ev z' => ∃ i : Nat, i ≤ l.length ∧ m = l.length - i ∧ ev = ES4 l i ∧ Kn s z' [],
    ⟨l.length, fg [0, 1, 2, 15, 16, 17] _, _, WkM.fg hg, 0, Nat.zero_le _, rfl, rfl, K⟩, ?_⟩
  clear K
  rintro m ev z1 ⟨i, hi, rfl, rfl, K⟩
  conv => whnf
  refine kgo ?_; (repeat (first | intro (X:Nat) | intro (z:St) | intro (av:V) | intro (tk:Option Nat) | (intro (K1:Kn _ _ _); (try clear K); rename Kn _ _ _ => K))); conv => whnf
  refine brL ⟨fun hlt => ?_, fun hge => ?_⟩ <;> conv => whnf
  · have hli : l[i]? = some l[i] := List.getElem?_eq_getElem hlt
    have hbe := hb l[i] (List.getElem_mem hlt)
    generalize l[i] = e at hli hbe
    refine kgo ?_; (repeat (first | intro (X:Nat) | intro (z:St) | intro (av:V) | intro (tk:Option Nat) | (intro (K1:Kn _ _ _); (try clear K); rename Kn _ _ _ => K))); conv => whnf
    refine ⟨hc, _, _, eeq_den e hbe _ K.x, ?_⟩
    conv => whnf
    refine kgo ?_; (repeat (first | intro (X:Nat) | intro (z:St) | intro (av:V) | intro (tk:Option Nat) | (intro (K1:Kn _ _ _); (try clear K); rename Kn _ _ _ => K))); conv => whnf
    intro hg'
    exact ⟨l.length - (i + 1), fg [0, 1, 2, 15, 16, 17] _, _, by omega, WkM.fg hg', i + 1, hlt, rfl, rfl, (K.drop0 rfl).drop0 rfl⟩
  · refine kgo ?_; (repeat (first | intro (X:Nat) | intro (z:St) | intro (av:V) | intro (tk:Option Nat) | (intro (K1:Kn _ _ _); (try clear K); rename Kn _ _ _ => K))); conv => whnf
    exact K.fin ht hx (.b _) (.refl _)
theorem same_den (l : List Ey) (hl : l.length ≤ 100000) (hb : ∀ e ∈ l, e.b.length ≤ 100000) (s : St) (hx : NoX s) : Den gt0 Tryz.prog 12 [slS l, slS l] s (.b true) s := by
  refine Den.tidy fun ht => Den.hm gnm0 hF12 ?_
  have K := Kn.init ht.1 hx
  conv => whnf
  refine kgo ?_; (repeat (first | intro (X:Nat) | intro (z:St) | intro (av:V) | intro (tk:Option Nat) | (intro (K1:Kn _ _ _); (try clear K); rename Kn _ _ _ => K))); conv => whnf
  refine ⟨_, _, feq_den l hl hb _ K.x, ?_⟩
  conv => whnf
  refine kgo ?_; (repeat (first | intro (X:Nat) | intro (z:St) | intro (av:V) | intro (tk:Option Nat) | (intro (K1:Kn _ _ _); (try clear K); rename Kn _ _ _ => K))); conv => whnf
  exact K.fin ht hx (.b _) (.refl _)
theorem toB2 (xs : List UInt8) : toBytes (((xs.map bV).map V.cells).flatten) = some xs := by
  induction xs with
  | nil => rfl
  | cons x xs ih =>
    show toBytes (bV x :: ((xs.map bV).map V.cells).flatten) = some (x :: xs)
    generalize ((xs.map bV).map V.cells).flatten = L at *
    simp [toBytes, bV, ih]
theorem b2s_bs {e : List V} {s : St} {x : Arg} {bs : List UInt8} (hx : x.ev e = bsV bs) : aop e s (.b2s x) = some (.s bs, s) := by
  simp only [aop, hx, bsV, toB2]; rfl
def ES1 (l : List Ey) (i : Nat) : List V := (slS l :: slS l :: .bad :: .bad :: .bad :: .i .i64 (i : Nat) :: List.replicate 63 .bad)
theorem rsame_den (l : List Ey) (hl : l.length ≤ 100000) (s : St) (hx : NoX s) : Den gt0 Tryz.prog 11 [slS l, slS l] s (.b true) s := by
  have hll : (l.map eyV).length = l.length := List.length_map ..
  refine Den.tidy fun ht => Den.hm gnm0 hF11 ?_
  have K := Kn.init ht.1 hx
  conv => whnf
  refine kgo ?_; (repeat (first | intro (X:Nat) | intro (z:St) | intro (av:V) | intro (tk:Option Nat) | (intro (K1:Kn _ _ _); (try clear K); rename Kn _ _ _ => K))); conv => whnf
  rw [eqZ_self]
  conv => whnf
  refine kgo ?_; (repeat (first | intro (X:Nat) | intro (z:St) | intro (av:V) | intro (tk:Option Nat) | (intro (K1:Kn _ _ _); (try clear K); rename Kn _ _ _ => K))); conv => whnf
  refine HM.loop gnm0 fun hg => ⟨fun m ev z' => ∃ i : Nat, i ≤ l.length ∧ m = l.length - i ∧ ev = ES1 l i ∧ Kn s z' [],
    ⟨l.length, fg [0, 1, 5] _, _, WkM.fg hg, 0, Nat.zero_le _, rfl, rfl, K⟩, ?_⟩
  clear K
  rintro m ev z1 ⟨i, hi, rfl, rfl, K⟩
  conv => whnf
  refine kgo ?_; (repeat (first | intro (X:Nat) | intro (z:St) | intro (av:V) | intro (tk:Option Nat) | (intro (K1:Kn _ _ _); (try clear K); rename Kn _ _ _ => K))); conv => whnf
  rw [hll]
  refine brL ⟨fun hlt => ?_, fun hge => ?_⟩ <;> conv => whnf
  · have hli : l[i]? = some l[i] := List.getElem?_eq_getElem hlt
    generalize l[i] = e at hli
    refine kgo ?_; (repeat (first | intro (X:Nat) | intro (z:St) | intro (av:V) | intro (tk:Option Nat) | (intro (K1:Kn _ _ _); (try clear K); rename Kn _ _ _ => K))); conv => whnf
    rw [eqZ_self]
    conv => whnf
    refine kgo ?_; (repeat (first | intro (X:Nat) | intro (z:St) | intro (av:V) | intro (tk:Option Nat) | (intro (K1:Kn _ _ _); (try clear K); rename Kn _ _ _ => K))); conv => whnf
    rw [eqZ_self]
    conv => whnf
    refine kgo ?_; (repeat (first | intro (X:Nat) | intro (z:St) | intro (av:V) | intro (tk:Option Nat) | (intro (K1:Kn _ _ _); (try clear K); rename Kn _ _ _ => K))); conv => whnf
    rw [eqZ_self]
    conv => whnf
    refine kgo ?_; (repeat (first | intro (X:Nat) | intro (z:St) | intro (av:V) | intro (tk:Option Nat) | (intro (K1:Kn _ _ _); (try clear K); rename Kn _ _ _ => K))); conv => whnf
    refine ⟨_, _, b2s_bs (bs := e.b) rfl, ?_⟩
    conv => whnf
    refine kgo ?_; (repeat (first | intro (X:Nat) | intro (z:St) | intro (av:V) | intro (tk:Option Nat) | (intro (K1:Kn _ _ _); (try clear K); rename Kn _ _ _ => K))); conv => whnf
    refine ⟨_, _, b2s_bs (bs := e.b) rfl, ?_⟩
    conv => whnf
    refine kgo ?_; (repeat (first | intro (X:Nat) | intro (z:St) | intro (av:V) | intro (tk:Option Nat) | (intro (K1:Kn _ _ _); (try clear K); rename Kn _ _ _ => K))); conv => whnf
    rw [beq_self_eq_true]
    conv => whnf
    refine kgo ?_; (repeat (first | intro (X:Nat) | intro (z:St) | intro (av:V) | intro (tk:Option Nat) | (intro (K1:Kn _ _ _); (try clear K); rename Kn _ _ _ => K))); conv => whnf
    intro hg'
    exact ⟨l.length - (i + 1), fg [0, 1, 5] _, _, by omega, WkM.fg hg', i + 1, hlt, rfl, rfl, K⟩
  · refine kgo ?_; (repeat (first | intro (X:Nat) | intro (z:St) | intro (av:V) | intro (tk:Option Nat) | (intro (K1:Kn _ _ _); (try clear K); rename Kn _ _ _ => K))); conv => whnf
    exact K.fin ht hx (.b _) (.refl _)
end Go.Proofs.YtbcapobkbgckbaaGreatDoor
