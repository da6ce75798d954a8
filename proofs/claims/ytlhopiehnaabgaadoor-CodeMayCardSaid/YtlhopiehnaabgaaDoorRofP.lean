/-
  What the document reads of a text's lines, plainly. No statement stands here.
-/
import Derived.Test.YtlhopiehnaabgaaDoorCof
import Derived.Test.YtlhopiehnaabgaaDoorLin
set_option linter.all false
namespace Go.Proofs.YtlhopiehnaabgaaDoor
open Go Rf
set_option maxRecDepth 100000
set_option maxHeartbeats 4000000

def atR (w : List UInt8) : Nat := (w.takeWhile (· != 32)).length
def opR (w : List UInt8) (n : Nat) : Int := (wsL.take n).zipIdx.foldl (fun a x => if x.1 = w then (x.2 : Nat) + 1 else a) 0
def insR (w : List UInt8) : Int × Int := (opR (w.take (atR w)) 17, if atR w < w.length then valR (w.drop (atR w + 1)) else 0)
def stB (p : Int × List Kd) (i : Nat) (l : List UInt8) : Option (Int × List Kd) :=
  if i = 0 then some (if 5 < l.length then (valR (l.drop 5), p.2) else p)
  else if l = [107, 105, 110, 100] then some (p.1, p.2 ++ [[]])
  else if p.2.length = 0 ∨ l.length < 3 then none
  else some (p.1, addL p.2 (insR (l.drop 2)))
def foB : List (List UInt8) → Nat → Int × List Kd → Option (Int × List Kd)
  | [], _, p => some p
  | l :: r, i, p => match stB p i l with
    | none => none
    | some q => foB r (i + 1) q
theorem valR_i64 (l : List UInt8) : i64 (valR l) := by
  unfold valR i64
  generalize (if l.head? = some 45 then wrapF .u64 (0 - l.foldl stD 0) else l.foldl stD 0) = n
  rw [wI]; omega
theorem few_add {i : Nat} {p : Int × List Kd} {x : Int × Int} (h : Few i p) (hi : i64 x.2) : Few (i + 1) (p.1, addL p.2 x) := by
  obtain ⟨h1, h2, h3⟩ := h
  refine ⟨h1, ?_, fun k hk => ?_⟩
  · simp [addL]
    omega
  · rcases List.mem_append.1 hk with hk | hk
    · have := h3 k ((List.dropLast_subset _) hk)
      exact ⟨Nat.le_succ_of_le this.1, this.2⟩
    · simp only [List.mem_singleton] at hk
      subst hk
      have hg : p.2.getLastD [] = [] ∨ p.2.getLastD [] ∈ p.2 := by
        cases hp : p.2 with
        | nil => exact .inl rfl
        | cons a r => exact .inr (by simp [List.getLastD])
      rcases hg with hg | hg
      · rw [hg]
        exact ⟨by simp, fun x hx => by simp at hx; subst hx; exact hi⟩
      · have := h3 _ hg
        refine ⟨by rw [List.length_append]; exact Nat.succ_le_succ this.1, fun x hx => ?_⟩
        rcases List.mem_append.1 hx with hx | hx
        · exact this.2 x hx
        · simp at hx; subst hx; exact hi
theorem few_stB {i : Nat} {p q : Int × List Kd} {l : List UInt8} (h : Few i p) (hs : stB p i l = some q) : Few (i + 1) q := by
  have h' := h
  obtain ⟨h1, h2, h3⟩ := h
  unfold stB at hs
  split at hs
  · cases hs
    split
    · exact ⟨valR_i64 _, by simp only; omega, fun k hk => ⟨Nat.le_succ_of_le (h3 k hk).1, (h3 k hk).2⟩⟩
    · exact ⟨h1, Nat.le_succ_of_le h2, fun k hk => ⟨Nat.le_succ_of_le (h3 k hk).1, (h3 k hk).2⟩⟩
  · split at hs
    · cases hs
      refine ⟨h1, by simp; exact h2, fun k hk => ?_⟩
      rcases List.mem_append.1 hk with hk | hk
      · exact ⟨Nat.le_succ_of_le (h3 k hk).1, (h3 k hk).2⟩
      · simp at hk; subst hk; simp
    · split at hs
      · cases hs
      · cases hs
        refine few_add h' ?_
        unfold insR
        simp only
        split
        · exact valR_i64 _
        · exact ⟨by decide, by decide⟩
def rofT (S : List UInt8) : Option (Int × List Kd) → V
  | none => .tu [pgV 0 [], .b false]
  | some r => if mayP r.1 r.2 ∧ pgT r.1 r.2 = S then .tu [pgV r.1 r.2, .b true] else .tu [pgV 0 [], .b false]
theorem mayP_len {v : Int} {ks : List Kd} (h : mayP v ks = true) : ks.length ≤ 8 ∧ ∀ k ∈ ks, k.length ≤ 128 := by
  unfold mayP at h
  simp only [Bool.and_eq_true, Bool.not_eq_true', List.any_eq_false, Bool.or_eq_false_iff, decide_eq_false_iff_not] at h
  refine ⟨by omega, fun k hk => ?_⟩
  have h1 := h.2 k hk
  unfold kdBad at h1
  simp only [Bool.or_eq_true, not_or, decide_eq_true_eq] at h1
  omega
end Go.Proofs.YtlhopiehnaabgaaDoor
