import Derived.Test.YthoojnjcdllgdaaGreatDoorTre
import Derived.Test.YthoojnjcdllgdaaGreatDoorRefF
import Derived.Test.YthoojnjcdllgdaaGreatDoorTalP
import Derived.Test.YthoojnjcdllgdaaGreatDoorTxb
import Derived.Test.YthoojnjcdllgdaaGreatDoorTsq
import Derived.Test.YthoojnjcdllgdaaGreatDoorTalK
/-
  Contract: the code's sums (F). No statement stands here.
-/
set_option linter.all false
namespace Go.Proofs.YthoojnjcdllgdaaGreatDoor
open Go Rf TallyP
set_option maxRecDepth 100000
set_option maxHeartbeats 4000000

def rowF (x : (Int × Int) × Sm) : RwF := (x.1, x.2.1)
def ESF (M : Nat) (av : V) (ks : List (Int × Int)) (i : Nat) : List V := (.bad :: .bad :: av :: .m M :: .bad :: .bad :: .bad :: .bad :: .bad :: .bad :: .pu 2 (ks.map pE) .u :: .i .i64 (ks.length : Nat) :: .i .i64 (i : Nat) :: List.replicate 17 .bad)
theorem talF_den (ms : List Mv) (hms : ms.length ≤ 1000) (hn : ∀ m ∈ ms, Nm s0.L m.v) (hw : ∀ m ∈ ms, m.wf) (s : St) (hx : NoX s) :
    Den gt0 Tryz.prog 14 [.pu 47 (ms.map Mv.v) .u] s (.pu 3 ((spRP (gaG (fun m => (m.og, m.to)) ms)).map fun x => .ag (csF (rowF x))) .u) s := by
  obtain ⟨g1, g2, g3⟩ := gath_ok (kf := fun m => (m.og, m.to)) (P := fun k => (Lit.int .i64 k.1).wf = true ∧ (Lit.int .i64 k.2).wf = true) ms [] List.nodup_nil (fun k hk => by cases hk) (fun m hm => ⟨(hw m hm).1, (hw m hm).2.1⟩)
  refine Den.tidy fun hty => Den.hm gnm0 hF14 ?_
  have K := Kn.init hty.1 hx
  conv => whnf
  refine kgo ?_; (repeat (first | intro (X:Nat) | intro (z:St) | intro (av:V) | intro (tk:Option Nat) | (intro (K1:Kn _ _ _); (try clear K); rename Kn _ _ _ => K))); conv => whnf
  obtain ⟨R, hR⟩ : ∃ R, gaG (fun m => (m.og, m.to)) ms = R := ⟨_, rfl⟩
  refine ⟨_, _, gathP_den hG35 40 [] (fun m => (m.og, m.to)) ms hn hms (by kernel_rfl) (fun m hm => c39_den m (hn m hm)) s hx R hR, ?_⟩
  rw [hR]
  unfold gaG at hR
  rw [hR] at g1 g2 g3
  have K1 := K.newX (.mp (mEs pE smV R 0) R.length)
  clear K; rename Kn _ _ _ => K
  generalize s.new (.x (.mp (mEs pE smV R 0) R.length)) = z1 at K ⊢
  conv => whnf
  refine kgo ?_; (repeat (first | intro (X:Nat) | intro (z:St) | intro (av:V) | intro (tk:Option Nat) | (intro (K1:Kn _ _ _); (try clear K); rename Kn _ _ _ => K))); conv => whnf
  refine ⟨_, _, keys37_den, ?_⟩
  have K1 := K.new (o := .c [.m s.n] 0 (some 106)) rfl
  clear K; rename Kn _ _ _ => K
  have hB := K.get (w := true) .here
  have hM := K.get (w := true) (.there .here)
  have hsd := sortedP_den hB hM rfl g2 g1 (by simp only [List.length_nil] at g3; omega)
  clear hB hM
  generalize z1.new (.c [.m s.n] 0 (some 106)) = z2 at K hsd ⊢
  generalize z1.n = B at K hsd ⊢
  obtain ⟨ks, hks⟩ : ∃ ks, sortP (keysL R) = ks := ⟨_, rfl⟩
  have hrow : spRP R = ks.map fun k => (k, getS k R) := by unfold spRP; rw [hks]
  have hkl : ks.length ≤ 1000 := by rw [← hks]; unfold sortP; rw [List.length_mergeSort]; simp only [List.length_nil] at g3; simp [keysL]; omega
  rw [hks] at hsd
  rw [hrow]
  have hll : (ks.map pE).length = ks.length := List.length_map ..
  conv => whnf
  refine kgo ?_; (repeat (first | intro (X:Nat) | intro (z:St) | intro (av:V) | intro (tk:Option Nat) | (intro (K1:Kn _ _ _); (try clear K); rename Kn _ _ _ => K))); conv => whnf
  refine ⟨_, _, hsd, ?_⟩
  conv => whnf
  refine kgo ?_; (repeat (first | intro (X:Nat) | intro (z:St) | intro (av:V) | intro (tk:Option Nat) | (intro (K1:Kn _ _ _); (try clear K); rename Kn _ _ _ => K))); conv => whnf
  rw [hll]
  refine HM.loop gnm0 fun hg => ⟨fun n e z => ∃ (i : Nat) (av : V) (tk : Option Nat), i ≤ ks.length ∧ n = ks.length - i ∧ e = ESF s.n av ks i ∧ Kn s z [.ac 3 av (((ks.take i).map fun k => (k, getS k R)).map fun x => .ag (csF (rowF x))) tk, .ob true B (.c [.m s.n] 0 (some 106)), .ob true s.n (.x (.mp (mEs pE smV R 0) R.length))],
    ⟨ks.length, fg [2, 3, 10, 11, 12] _, _, WkM.fg hg, 0, .ns, none, Nat.zero_le _, rfl, rfl, K.acc0 3⟩, ?_⟩
  clear K
  rintro n e z1 ⟨i, av, tk, hi, rfl, rfl, K⟩
  conv => whnf
  refine kgo ?_; (repeat (first | intro (X:Nat) | intro (z:St) | intro (av:V) | intro (tk:Option Nat) | (intro (K1:Kn _ _ _); (try clear K); rename Kn _ _ _ => K))); conv => whnf
  refine brL ⟨fun hlt => ?_, fun hge => ?_⟩ <;> conv => whnf
  · have hki : ks[i]? = some ks[i] := List.getElem?_eq_getElem hlt
    generalize ks[i] = k at hki
    have htl : (((ks.take i).map fun k => (k, getS k R)).map fun x => V.ag (csF (rowF x))).length ≤ 1000 := by simp; omega
    refine kgo ?_; (repeat (first | intro (X:Nat) | intro (z:St) | intro (av:V) | intro (tk:Option Nat) | (intro (K1:Kn _ _ _); (try clear K); rename Kn _ _ _ => K))); conv => whnf
    have hgm := K.get (w := true) (.there (.there (.there .here)))
    rw [aym_lookD (k := k) enc_p hgm]
    rotate_left
    · rfl
    · rfl
    rw [look0]
    conv => whnf
    refine kgo ?_; (repeat (first | intro (X:Nat) | intro (z:St) | intro (av:V) | intro (tk:Option Nat) | (intro (K1:Kn _ _ _); (try clear K); rename Kn _ _ _ => K))); conv => whnf
    intro hg'
    exact ⟨ks.length - (i + 1), fg [2, 3, 10, 11, 12] _, _, by omega, WkM.fg hg', i + 1, av, tk, hlt, rfl, rfl, (K.drop0 rfl).cast (by rw [List.take_add_one, hki, Option.toList_some, List.map_append, List.map_append]; rfl)⟩
  · rw [List.take_of_length_le hge] at K
    refine kgx ?_; (repeat (first | intro (X:Nat) | intro (z:St) | intro (av:V) | intro (tk:Option Nat) | (intro (K1:Kn _ _ _); (try clear K); rename Kn _ _ _ => K))); conv => whnf
    refine kvw (t := 2) nthx ?_ K .here
    conv => whnf
    refine kgo ?_; (repeat (first | intro (X:Nat) | intro (z:St) | intro (av:V) | intro (tk:Option Nat) | (intro (K1:Kn _ _ _); (try clear K); rename Kn _ _ _ => K))); conv => whnf
    exact K.fin hty hx (nm_rows _ fun x c hc => by
      simp only [csF, rowF, List.mem_cons, List.not_mem_nil, or_false] at hc
      rcases hc with rfl | rfl | rfl <;> exact .i _ _) (.refl _)
end Go.Proofs.YthoojnjcdllgdaaGreatDoor
/-
  The windows' rows, plainly: both sums come to the same. No statement stands here.
-/
set_option linter.all false
namespace Go.Proofs.YthoojnjcdllgdaaGreatDoor
open Go Rf TallyP
set_option maxRecDepth 100000
set_option maxHeartbeats 4000000

theorem ga_evs (kf : Mv → Int) : ∀ (ms : List Mv) (l : List (Int × Sm)), ms.foldl (gath kf) l = (evs ms).foldl (fun l m => updM (gf m) (kf m) l) l
  | [], _ => rfl
  | m :: ms, l => by
    rw [List.foldl_cons, ga_evs kf ms]
    unfold gath evs
    cases h : isEv m
    · rw [List.filter_cons_of_neg (by simp [h]), if_neg (by simp)]
    · rw [List.filter_cons_of_pos h, if_pos rfl, List.foldl_cons]
theorem gf_inc (m : Mv) (o : Option Sm) : ((gf m o).1, (gf m o).2.1) = incS m.rl.length (o.map fun s => (s.1, s.2.1)) := by
  cases o <;> rfl
theorem sortI_ok (l : List Int) (h : l.Nodup) : (sortI l).Pairwise (fun a b => ltI a b = true) ∧ ∀ x, x ∈ sortI l ↔ x ∈ l := by
  have hp : (sortI l).Perm l := List.mergeSort_perm l _
  have h1 : (sortI l).Pairwise (fun a b => decide (a ≤ b) = true) := List.pairwise_mergeSort (fun a b c h1 h2 => by simp at *; omega) (fun a b => by simp; omega) l
  have h2 : (sortI l).Nodup := hp.nodup_iff.2 h
  exact ⟨(List.Pairwise.and h1 h2).imp fun {a b} h => by
    have h3 : a ≤ b := by simpa using h.1
    have h4 : a ≠ b := h.2
    simp [ltI]; omega, fun x => hp.mem_iff⟩
theorem rows_same (len : Int) (ms : List Mv) :
    (spR (gaI (fun m => fromW len m.t) ms)).map (fun x => (x.1, x.2.1, x.2.2.1)) = refR len (evs ms) := by
  have hg : gaI (fun m => fromW len m.t) ms = (evs ms).foldl (fun l m => updM (gf m) (fromW len m.t) l) [] := ga_evs _ ms []
  obtain ⟨h1, h2, h3⟩ := fold_same ordI (fun m : Mv => fromW len m.t) gf (evs ms) [] [] List.Pairwise.nil List.nodup_nil (fun _ => rfl)
  rw [← hg] at h2 h3
  obtain ⟨h4, h5⟩ := sortI_ok _ h2
  have e := same_sums ordI (fun k => getS k (gaI (fun m => fromW len m.t) ms)) h1 h3 (fun k s hk => by unfold getS; rw [hk]; rfl) h4 h5
  unfold spR
  rw [e]
  exact fold_map (g := fun s : Sm => (s.1, s.2.1)) gf_inc (evs ms) []
end Go.Proofs.YthoojnjcdllgdaaGreatDoor
/-
  Contracts: the same sums. No statement stands here.
-/
set_option linter.all false
namespace Go.Proofs.YthoojnjcdllgdaaGreatDoor
open Go Rf TallyP
set_option maxRecDepth 100000
set_option maxHeartbeats 4000000

theorem gfP (m : Mv) (o : Option Sm) : gf m o = fP m o := by cases o <;> rfl
theorem gfK (m : Mv) (o : Option Sm) : ((gf m o).1, (gf m o).2.1) = fK m (o.map fun s => (s.1, s.2.1)) := by cases o <;> rfl
theorem gfF (m : Mv) (o : Option Sm) : (gf m o).1 = fF m (o.map fun s => s.1) := by cases o <;> rfl
theorem ga_evsG {K : Type} [DecidableEq K] (kf : Mv → K) : ∀ (ms : List Mv) (l : List (K × Sm)), ms.foldl (gath kf) l = (evs ms).foldl (fun l m => updM (gf m) (kf m) l) l
  | [], _ => rfl
  | m :: ms, l => by
    rw [List.foldl_cons, ga_evsG kf ms]
    unfold gath evs
    cases h : isEv m
    · rw [List.filter_cons_of_neg (by simp [h]), if_neg (by simp)]
    · rw [List.filter_cons_of_pos h, if_pos rfl, List.foldl_cons]
theorem sortP_ok (l : List (Int × Int)) (h : l.Nodup) : (sortP l).Pairwise (fun a b => ltP a b = true) ∧ ∀ x, x ∈ sortP l ↔ x ∈ l := by
  have hp : (sortP l).Perm l := List.mergeSort_perm l _
  have h2 : (sortP l).Nodup := hp.nodup_iff.2 h
  exact ⟨(List.Pairwise.and (sortP_pw l) h2).imp fun {a b} h => by
    have h3 : ltP b a = false := by simpa using h.1
    have h4 : a ≠ b := h.2
    cases h5 : ltP a b with
    | true => rfl
    | false => exact (h4 (ordP.tot _ _ h5 h3)).elim, fun x => hp.mem_iff⟩
theorem spR_fold (kf : Mv → Int) (ms : List Mv) : spR (gaG kf ms) = (evs ms).foldl (fun L m => insR ltI (gf m) (kf m) L) [] := by
  have hg : gaG kf ms = (evs ms).foldl (fun l m => updM (gf m) (kf m) l) [] := ga_evsG _ ms []
  obtain ⟨h1, h2, h3⟩ := fold_same ordI kf gf (evs ms) [] [] List.Pairwise.nil List.nodup_nil (fun _ => rfl)
  rw [← hg] at h2 h3
  obtain ⟨h4, h5⟩ := sortI_ok _ h2
  exact same_sums ordI (fun k => getS k (gaG kf ms)) h1 h3 (fun k s hk => by unfold getS; rw [hk]; rfl) h4 h5
theorem spRP_fold (kf : Mv → Int × Int) (ms : List Mv) : spRP (gaG kf ms) = (evs ms).foldl (fun L m => insR ltP (gf m) (kf m) L) [] := by
  have hg : gaG kf ms = (evs ms).foldl (fun l m => updM (gf m) (kf m) l) [] := ga_evsG _ ms []
  obtain ⟨h1, h2, h3⟩ := fold_same ordP kf gf (evs ms) [] [] List.Pairwise.nil List.nodup_nil (fun _ => rfl)
  rw [← hg] at h2 h3
  obtain ⟨h4, h5⟩ := sortP_ok _ h2
  exact same_sums ordP (fun k => getS k (gaG kf ms)) h1 h3 (fun k s hk => by unfold getS; rw [hk]; rfl) h4 h5
theorem rowsP (ms : List Mv) : (spR (gaG (fun m => m.to) ms)).map rowP = refP (evs ms) := by
  rw [spR_fold]
  have e : (fun m : Mv => gf m) = fun m => fP m := by funext m o; exact gfP m o
  have e1 : (fun (L : List (Int × Sm)) (m : Mv) => insR ltI (gf m) m.to L) = fun L m => insR ltI (fP m) (keyP m) L := by
    funext L m
    rw [show gf m = fP m from congrFun e m]; rfl
  rw [e1]
  show List.map (fun x : RwP => x) (refP (evs ms)) = _
  rw [List.map_id']
theorem rowsK (ms : List Mv) : (spRP (gaG (fun m => (m.to, m.kd)) ms)).map rowK = refK (evs ms) := by
  rw [spRP_fold]
  exact fold_map (g := fun s : Sm => (s.1, s.2.1)) (f' := fun m => fK m) (key := keyK) gfK (evs ms) []
theorem rowsF (ms : List Mv) : (spRP (gaG (fun m => (m.og, m.to)) ms)).map rowF = refF (evs ms) := by
  rw [spRP_fold]
  exact fold_map (g := fun s : Sm => s.1) (f' := fun m => fF m) (key := keyF) gfF (evs ms) []
theorem talPw_den (ms : List Mv) (hms : ms.length ≤ 1000) (hn : ∀ m ∈ ms, Nm s0.L m.v) (hw : ∀ m ∈ ms, m.wf) (s : St) (hx : NoX s) :
    Den gt0 Tryz.prog 12 [.pu 47 (ms.map Mv.v) .u] s (.pu 5 ((refP (evs ms)).map fun x => .ag (csP x)) .u) s := by
  have h := talP_den ms hms hn hw s hx
  rw [← rowsP, List.map_map]; exact h
theorem talKw_den (ms : List Mv) (hms : ms.length ≤ 1000) (hn : ∀ m ∈ ms, Nm s0.L m.v) (hw : ∀ m ∈ ms, m.wf) (s : St) (hx : NoX s) :
    Den gt0 Tryz.prog 13 [.pu 47 (ms.map Mv.v) .u] s (.pu 4 ((refK (evs ms)).map fun x => .ag (csK x)) .u) s := by
  have h := talK_den ms hms hn hw s hx
  rw [← rowsK, List.map_map]; exact h
theorem talFw_den (ms : List Mv) (hms : ms.length ≤ 1000) (hn : ∀ m ∈ ms, Nm s0.L m.v) (hw : ∀ m ∈ ms, m.wf) (s : St) (hx : NoX s) :
    Den gt0 Tryz.prog 14 [.pu 47 (ms.map Mv.v) .u] s (.pu 3 ((refF (evs ms)).map fun x => .ag (csF x)) .u) s := by
  have h := talF_den ms hms hn hw s hx
  rw [← rowsF, List.map_map]; exact h
end Go.Proofs.YthoojnjcdllgdaaGreatDoor
