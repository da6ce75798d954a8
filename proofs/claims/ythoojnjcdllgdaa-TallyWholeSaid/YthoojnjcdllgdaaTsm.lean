/-
  Contracts: the same sums. No statement stands here.
-/
import Derived.Test.YthoojnjcdllgdaaTalP
import Derived.Test.YthoojnjcdllgdaaTalK
import Derived.Test.YthoojnjcdllgdaaTalF
import Derived.Test.YthoojnjcdllgdaaTxc
set_option linter.all false
namespace Go.Proofs.Ythoojnjcdllgdaa
open Go Rf TallyP
set_option maxRecDepth 100000
set_option maxHeartbeats 4000000

theorem gfP (m : Mv) (o : Option Sm) : gf m o = fP m o := by cases o <;> rfl
theorem gfK (m : Mv) (o : Option Sm) : ((gf m o).1, (gf m o).2.1) = fK m (o.map fun s => (s.1, s.2.1)) := by cases o <;> rfl
theorem gfF (m : Mv) (o : Option Sm) : (gf m o).1 = fF m (o.map fun s => s.1) := by cases o <;> rfl
theorem ga_evsG {K : Type} [DecidableEq K] (kf : Mv → K) : ∀ (ms : List Mv) (l : List (K × Sm)), ms.foldl (gath kf) l = (evs ms).foldl (fun l m => updM (gf m) (kf m) l) l
  | [], _ => rfl
  | m :: ms, l => by
    rw [List.foldl_cons, ga_evsG kf ms]
    unfold gath evs
    cases h : isEv m
    · rw [List.filter_cons_of_neg (by simp [h]), if_neg (by simp)]
    · rw [List.filter_cons_of_pos h, if_pos rfl, List.foldl_cons]
theorem sortP_ok (l : List (Int × Int)) (h : l.Nodup) : (sortP l).Pairwise (fun a b => ltP a b = true) ∧ ∀ x, x ∈ sortP l ↔ x ∈ l := by
  have hp : (sortP l).Perm l := List.mergeSort_perm l _
  have h2 : (sortP l).Nodup := hp.nodup_iff.2 h
  exact ⟨(List.Pairwise.and (sortP_pw l) h2).imp fun {a b} h => by
    have h3 : ltP b a = false := by simpa using h.1
    have h4 : a ≠ b := h.2
    cases h5 : ltP a b with
    | true => rfl
    | false => exact (h4 (ordP.tot _ _ h5 h3)).elim, fun x => hp.mem_iff⟩
theorem spR_fold (kf : Mv → Int) (ms : List Mv) : spR (gaG kf ms) = (evs ms).foldl (fun L m => insR ltI (gf m) (kf m) L) [] := by
  have hg : gaG kf ms = (evs ms).foldl (fun l m => updM (gf m) (kf m) l) [] := ga_evsG _ ms []
  obtain ⟨h1, h2, h3⟩ := fold_same ordI kf gf (evs ms) [] [] List.Pairwise.nil List.nodup_nil (fun _ => rfl)
  rw [← hg] at h2 h3
  obtain ⟨h4, h5⟩ := sortI_ok _ h2
  exact same_sums ordI (fun k => getS k (gaG kf ms)) h1 h3 (fun k s hk => by unfold getS; rw [hk]; rfl) h4 h5
theorem spRP_fold (kf : Mv → Int × Int) (ms : List Mv) : spRP (gaG kf ms) = (evs ms).foldl (fun L m => insR ltP (gf m) (kf m) L) [] := by
  have hg : gaG kf ms = (evs ms).foldl (fun l m => updM (gf m) (kf m) l) [] := ga_evsG _ ms []
  obtain ⟨h1, h2, h3⟩ := fold_same ordP kf gf (evs ms) [] [] List.Pairwise.nil List.nodup_nil (fun _ => rfl)
  rw [← hg] at h2 h3
  obtain ⟨h4, h5⟩ := sortP_ok _ h2
  exact same_sums ordP (fun k => getS k (gaG kf ms)) h1 h3 (fun k s hk => by unfold getS; rw [hk]; rfl) h4 h5
theorem rowsP (ms : List Mv) : (spR (gaG (fun m => m.to) ms)).map rowP = refP (evs ms) := by
  rw [spR_fold]
  have e : (fun m : Mv => gf m) = fun m => fP m := by funext m o; exact gfP m o
  have e1 : (fun (L : List (Int × Sm)) (m : Mv) => insR ltI (gf m) m.to L) = fun L m => insR ltI (fP m) (keyP m) L := by
    funext L m
    rw [show gf m = fP m from congrFun e m]; rfl
  rw [e1]
  show List.map (fun x : RwP => x) (refP (evs ms)) = _
  rw [List.map_id']
theorem rowsK (ms : List Mv) : (spRP (gaG (fun m => (m.to, m.kd)) ms)).map rowK = refK (evs ms) := by
  rw [spRP_fold]
  exact fold_map (g := fun s : Sm => (s.1, s.2.1)) (f' := fun m => fK m) (key := keyK) gfK (evs ms) []
theorem rowsF (ms : List Mv) : (spRP (gaG (fun m => (m.og, m.to)) ms)).map rowF = refF (evs ms) := by
  rw [spRP_fold]
  exact fold_map (g := fun s : Sm => s.1) (f' := fun m => fF m) (key := keyF) gfF (evs ms) []
theorem talPw_den (ms : List Mv) (hms : ms.length ≤ 1000) (hn : ∀ m ∈ ms, Nm s0.L m.v) (hw : ∀ m ∈ ms, m.wf) (s : St) (hx : NoX s) :
    Den gt0 Try.prog 14 [.pu 47 (ms.map Mv.v) .u] s (.pu 5 ((refP (evs ms)).map fun x => .ag (csP x)) .u) s := by
  have h := talP_den ms hms hn hw s hx
  rw [← rowsP, List.map_map]; exact h
theorem talKw_den (ms : List Mv) (hms : ms.length ≤ 1000) (hn : ∀ m ∈ ms, Nm s0.L m.v) (hw : ∀ m ∈ ms, m.wf) (s : St) (hx : NoX s) :
    Den gt0 Try.prog 17 [.pu 47 (ms.map Mv.v) .u] s (.pu 4 ((refK (evs ms)).map fun x => .ag (csK x)) .u) s := by
  have h := talK_den ms hms hn hw s hx
  rw [← rowsK, List.map_map]; exact h
theorem talFw_den (ms : List Mv) (hms : ms.length ≤ 1000) (hn : ∀ m ∈ ms, Nm s0.L m.v) (hw : ∀ m ∈ ms, m.wf) (s : St) (hx : NoX s) :
    Den gt0 Try.prog 20 [.pu 47 (ms.map Mv.v) .u] s (.pu 3 ((refF (evs ms)).map fun x => .ag (csF x)) .u) s := by
  have h := talF_den ms hms hn hw s hx
  rw [← rowsF, List.map_map]; exact h
end Go.Proofs.Ythoojnjcdllgdaa
