/-
  The windows' rows, plainly: both sums come to the same. No statement stands here.
-/
import Derived.Test.YthoojnjcdllgdaaTxb
import Derived.Test.YthoojnjcdllgdaaTsq
set_option linter.all false
namespace Go.Proofs.Ythoojnjcdllgdaa
open Go Rf TallyP
set_option maxRecDepth 100000
set_option maxHeartbeats 4000000

theorem ga_evs (kf : Mv → Int) : ∀ (ms : List Mv) (l : List (Int × Sm)), ms.foldl (gath kf) l = (evs ms).foldl (fun l m => updM (gf m) (kf m) l) l
  | [], _ => rfl
  | m :: ms, l => by
    rw [List.foldl_cons, ga_evs kf ms]
    unfold gath evs
    cases h : isEv m
    · rw [List.filter_cons_of_neg (by simp [h]), if_neg (by simp)]
    · rw [List.filter_cons_of_pos h, if_pos rfl, List.foldl_cons]
theorem gf_inc (m : Mv) (o : Option Sm) : ((gf m o).1, (gf m o).2.1) = incS m.rl.length (o.map fun s => (s.1, s.2.1)) := by
  cases o <;> rfl
theorem sortI_ok (l : List Int) (h : l.Nodup) : (sortI l).Pairwise (fun a b => ltI a b = true) ∧ ∀ x, x ∈ sortI l ↔ x ∈ l := by
  have hp : (sortI l).Perm l := List.mergeSort_perm l _
  have h1 : (sortI l).Pairwise (fun a b => decide (a ≤ b) = true) := List.pairwise_mergeSort (fun a b c h1 h2 => by simp at *; omega) (fun a b => by simp; omega) l
  have h2 : (sortI l).Nodup := hp.nodup_iff.2 h
  exact ⟨(List.Pairwise.and h1 h2).imp fun {a b} h => by
    have h3 : a ≤ b := by simpa using h.1
    have h4 : a ≠ b := h.2
    simp [ltI]; omega, fun x => hp.mem_iff⟩
theorem rows_same (len : Int) (ms : List Mv) :
    (spR (gaI (fun m => fromW len m.t) ms)).map (fun x => (x.1, x.2.1, x.2.2.1)) = refR len (evs ms) := by
  have hg : gaI (fun m => fromW len m.t) ms = (evs ms).foldl (fun l m => updM (gf m) (fromW len m.t) l) [] := ga_evs _ ms []
  obtain ⟨h1, h2, h3⟩ := fold_same ordI (fun m : Mv => fromW len m.t) gf (evs ms) [] [] List.Pairwise.nil List.nodup_nil (fun _ => rfl)
  rw [← hg] at h2 h3
  obtain ⟨h4, h5⟩ := sortI_ok _ h2
  have e := same_sums ordI (fun k => getS k (gaI (fun m => fromW len m.t) ms)) h1 h3 (fun k s hk => by unfold getS; rw [hk]; rfl) h4 h5
  unfold spR
  rw [e]
  exact fold_map (g := fun s : Sm => (s.1, s.2.1)) gf_inc (evs ms) []
end Go.Proofs.Ythoojnjcdllgdaa
