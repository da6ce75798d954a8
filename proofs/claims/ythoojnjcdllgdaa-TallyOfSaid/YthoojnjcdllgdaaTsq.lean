/-
  Contract: the code's windows. No statement stands here.
-/
import Derived.Test.YthoojnjcdllgdaaTsp
set_option linter.all false
namespace Go.Proofs.Ythoojnjcdllgdaa
open Go Rf TallyP
set_option maxRecDepth 100000
set_option maxHeartbeats 4000000

theorem gath_ok {K : Type} [DecidableEq K] {kf : Mv → K} {P : K → Prop} : ∀ (ms : List Mv) (l : List (K × Sm)), (keysL l).Nodup → (∀ k ∈ keysL l, P k) → (∀ m ∈ ms, P (kf m)) → (keysL (ms.foldl (gath kf) l)).Nodup ∧ (∀ k ∈ keysL (ms.foldl (gath kf) l), P k) ∧ (ms.foldl (gath kf) l).length ≤ l.length + ms.length
  | [], l, h1, h2, _ => ⟨h1, h2, Nat.le_refl _⟩
  | m :: ms, l, h1, h2, h3 => by
    have hu : (keysL (gath kf l m)).Nodup ∧ (∀ k ∈ keysL (gath kf l m), P k) ∧ (gath kf l m).length ≤ l.length + 1 := by
      unfold gath
      split
      · refine ⟨nodup_updM _ _ _ h1, fun k hk => ?_, ?_⟩
        · rw [keys_updM] at hk
          split at hk
          · exact h2 k hk
          · rcases List.mem_append.1 hk with hk | hk
            · exact h2 k hk
            · simp at hk; subst hk; exact h3 m (List.mem_cons_self ..)
        · rw [updM_len]; split <;> omega
      · exact ⟨h1, h2, Nat.le_succ _⟩
    obtain ⟨a, b, c⟩ := gath_ok ms _ hu.1 hu.2.1 fun m hm => h3 m (List.mem_cons_of_mem _ hm)
    exact ⟨a, b, by rw [List.foldl_cons, List.length_cons]; omega⟩
def getS {K : Type} [DecidableEq K] (k : K) (l : List (K × Sm)) : Sm := (lkk k l).getD (0, 0, 0, 0)
theorem look0 {K : Type} [DecidableEq K] (k : K) (l : List (K × Sm)) : ((lkk k l).map smV).getD (.ag [.i .i64 0, .i .i64 0, .i .i64 0, .i .i64 0]) = smV (getS k l) := by
  unfold getS
  cases lkk k l <;> rfl
def sortI (l : List Int) : List Int := l.mergeSort fun x y => decide (x ≤ y)
def spR (R : List (Int × Sm)) : List (Int × Sm) := (sortI (keysL R)).map fun k => (k, getS k R)
end Go.Proofs.Ythoojnjcdllgdaa
