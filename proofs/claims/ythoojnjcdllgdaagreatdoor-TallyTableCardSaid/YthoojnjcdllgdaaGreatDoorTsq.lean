/-
  Contract: the code's windows. No statement stands here.
-/
import Derived.Test.YthoojnjcdllgdaaGreatDoorTsp
set_option linter.all false
namespace Go.Proofs.YthoojnjcdllgdaaGreatDoor
open Go Rf TallyP
set_option maxRecDepth 100000
set_option maxHeartbeats 4000000

theorem gath_ok {K : Type} [DecidableEq K] {kf : Mv → K} {P : K → Prop} : ∀ (ms : List Mv) (l : List (K × Sm)), (keysL l).Nodup → (∀ k ∈ keysL l, P k) → (∀ m ∈ ms, P (kf m)) → (keysL (ms.foldl (gath kf) l)).Nodup ∧ (∀ k ∈ keysL (ms.foldl (gath kf) l), P k) ∧ (ms.foldl (gath kf) l).length ≤ l.length + ms.length
  | [], l, h1, h2, _ => ⟨h1, h2, Nat.le_refl _⟩
  | m :: ms, l, h1, h2, h3 => by
    have hu : (keysL (gath kf l m)).Nodup ∧ (∀ k ∈ keysL (gath kf l m), P k) ∧ (gath kf l m).length ≤ l.length + 1 := by
      unfold gath
      split
      · refine ⟨nodup_updM _ _ _ h1, fun k hk => ?_, ?_⟩
        · rw [keys_updM] at hk
          split at hk
          · exact h2 k hk
          · rcases List.mem_append.1 hk with hk | hk
            · exact h2 k hk
            · simp at hk; subst hk; exact h3 m (List.mem_cons_self ..)
        · rw [updM_len]; split <;> omega
      · exact ⟨h1, h2, Nat.le_succ _⟩
    obtain ⟨a, b, c⟩ := gath_ok ms _ hu.1 hu.2.1 fun m hm => h3 m (List.mem_cons_of_mem _ hm)
    exact ⟨a, b, by rw [List.foldl_cons, List.length_cons]; omega⟩
def getS {K : Type} [DecidableEq K] (k : K) (l : List (K × Sm)) : Sm := (lkk k l).getD (0, 0, 0, 0)
theorem look0 {K : Type} [DecidableEq K] (k : K) (l : List (K × Sm)) : ((lkk k l).map smV).getD (.ag [.i .i64 0, .i .i64 0, .i .i64 0, .i .i64 0]) = smV (getS k l) := by
  unfold getS
  cases lkk k l <;> rfl
def sortI (l : List Int) : List Int := l.mergeSort fun x y => decide (x ≤ y)
def spV (x : Int × Sm) : V := .ag [.i .i64 x.1, .i .i64 x.2.1, .i .i64 x.2.2.1]
def gaI (kf : Mv → Int) (ms : List Mv) : List (Int × Sm) := ms.foldl (gath kf) []
def spR (R : List (Int × Sm)) : List (Int × Sm) := (sortI (keysL R)).map fun k => (k, getS k R)
theorem rows_nm {n : Nat → Prop} (l : List (Int × Sm)) : Nm n (.pu 3 (l.map spV) .u) := .pu _ _ _ (fun v hv => by
  obtain ⟨x, -, rfl⟩ := List.mem_map.1 hv
  exact .ag _ fun c hc => by
    simp only [List.mem_cons, List.not_mem_nil, or_false] at hc
    rcases hc with rfl | rfl | rfl <;> exact .i _ _) (fun k hk => by cases hk)
def ES (M : Nat) (av : V) (ks : List Int) (i : Nat) : List V := (.bad :: .bad :: .bad :: .bad :: .ns :: .i .i64 0 :: .m M :: av :: .bad :: .bad :: .bad :: .bad :: .bad :: .bad :: .bad :: .bad :: .bad :: .pu 1 (ks.map fun k => .i .i64 k) .u :: .i .i64 (ks.length : Nat) :: .i .i64 (i : Nat) :: List.replicate 18 .bad)
theorem spans8_den (ms : List Mv) (len : Int) (hl : 0 < len) (hl2 : len ≤ 4503599627370496) (hms : ms.length ≤ 1000) (hn : ∀ m ∈ ms, Nm s0.L m.v) (ht : ∀ m ∈ ms, -1152921504606846976 ≤ m.t ∧ m.t ≤ 1152921504606846976) (s : St) (hx : NoX s) :
    Den gt0 Tryz.prog 10 [.pu 47 (ms.map Mv.v) .u, .i .i64 len] s (.tu [.pu 3 ((spR (gaI (fun m => fromW len m.t) ms)).map spV) .u, .i .i64 0]) s := by
  obtain ⟨g1, g2, g3⟩ := gath_ok (kf := fun m => fromW len m.t) (P := fun k => (Lit.int .i64 k).wf = true) ms [] List.nodup_nil (fun k hk => by cases hk) (fun m hm => by
    obtain ⟨b1, b2⟩ := from_bnd hl hl2 (ht m hm).1 (ht m hm).2
    simp only [Lit.wf, IntKind.min, IntKind.max, IntKind.bits, IntKind.signed]
    simp
    omega)
  refine Den.tidy fun hty => Den.hm gnm0 hF10 ?_
  have K := Kn.init hty.1 hx
  conv => whnf
  refine kgo ?_; (repeat (first | intro (X:Nat) | intro (z:St) | intro (av:V) | intro (tk:Option Nat) | (intro (K1:Kn _ _ _); (try clear K); rename Kn _ _ _ => K))); conv => whnf
  rw [show ltZ len 1 = false by rw [ltZ_eq]; simp; omega]
  conv => whnf
  refine kgo ?_; (repeat (first | intro (X:Nat) | intro (z:St) | intro (av:V) | intro (tk:Option Nat) | (intro (K1:Kn _ _ _); (try clear K); rename Kn _ _ _ => K))); conv => whnf
  obtain ⟨R, hR⟩ : ∃ R, gaI (fun m => fromW len m.t) ms = R := ⟨_, rfl⟩
  refine ⟨_, _, gath23_den 27 [.q (.i .i64 len) 0] (fun m => fromW len m.t) ms hn hms (by kernel_rfl) (fun m hm => win_den m len hl hl2 (ht m hm).1 (ht m hm).2 (hn m hm)) s hx R hR, ?_⟩
  rw [hR]
  unfold gaI at hR
  rw [hR] at g1 g2 g3
  have K1 := K.newX (.mp (mEs iE smV R 0) R.length)
  clear K; rename Kn _ _ _ => K
  generalize s.new (.x (.mp (mEs iE smV R 0) R.length)) = z1 at K ⊢
  conv => whnf
  refine kgo ?_; (repeat (first | intro (X:Nat) | intro (z:St) | intro (av:V) | intro (tk:Option Nat) | (intro (K1:Kn _ _ _); (try clear K); rename Kn _ _ _ => K))); conv => whnf
  refine ⟨_, _, keys26_den, ?_⟩
  have K1 := K.new (o := .c [.m s.n] 0 (some 88)) rfl
  clear K; rename Kn _ _ _ => K
  have hB := K.get (w := true) .here
  have hM := K.get (w := true) (.there .here)
  have hsd := sorted25_den hB hM rfl g2 g1 (by simp only [List.length_nil] at g3; omega)
  clear hB hM
  generalize z1.new (.c [.m s.n] 0 (some 88)) = z2 at K hsd ⊢
  generalize z1.n = B at K hsd ⊢
  obtain ⟨ks, hks⟩ : ∃ ks, sortI (keysL R) = ks := ⟨_, rfl⟩
  have hrow : spR R = ks.map fun k => (k, getS k R) := by unfold spR; rw [hks]
  have hkl : ks.length ≤ 1000 := by rw [← hks]; unfold sortI; rw [List.length_mergeSort]; simp only [List.length_nil] at g3; simp [keysL]; omega
  unfold sortI at hks
  rw [hks] at hsd
  rw [hrow]
  have hll : (ks.map fun k => V.i .i64 k).length = ks.length := List.length_map ..
  conv => whnf
  refine kgo ?_; (repeat (first | intro (X:Nat) | intro (z:St) | intro (av:V) | intro (tk:Option Nat) | (intro (K1:Kn _ _ _); (try clear K); rename Kn _ _ _ => K))); conv => whnf
  refine ⟨_, _, hsd, ?_⟩
  conv => whnf
  refine kgo ?_; (repeat (first | intro (X:Nat) | intro (z:St) | intro (av:V) | intro (tk:Option Nat) | (intro (K1:Kn _ _ _); (try clear K); rename Kn _ _ _ => K))); conv => whnf
  rw [hll]
  refine HM.loop gnm0 fun hg => ⟨fun n e z => ∃ (i : Nat) (av : V) (tk : Option Nat), i ≤ ks.length ∧ n = ks.length - i ∧ e = ES s.n av ks i ∧ Kn s z [.ac 3 av (((ks.take i).map fun k => (k, getS k R)).map spV) tk, .ob true B (.c [.m s.n] 0 (some 88)), .ob true s.n (.x (.mp (mEs iE smV R 0) R.length))],
    ⟨ks.length, fg [4, 5, 6, 7, 17, 18, 19] _, _, WkM.fg hg, 0, .ns, none, Nat.zero_le _, rfl, rfl, K.acc0 3⟩, ?_⟩
  clear K
  rintro n e z1 ⟨i, av, tk, hi, rfl, rfl, K⟩
  conv => whnf
  refine kgo ?_; (repeat (first | intro (X:Nat) | intro (z:St) | intro (av:V) | intro (tk:Option Nat) | (intro (K1:Kn _ _ _); (try clear K); rename Kn _ _ _ => K))); conv => whnf
  refine brL ⟨fun hlt => ?_, fun hge => ?_⟩ <;> conv => whnf
  · have hki : ks[i]? = some ks[i] := List.getElem?_eq_getElem hlt
    generalize ks[i] = k at hki
    have htl : (((ks.take i).map fun k => (k, getS k R)).map spV).length ≤ 1000 := by simp; omega
    refine kgo ?_; (repeat (first | intro (X:Nat) | intro (z:St) | intro (av:V) | intro (tk:Option Nat) | (intro (K1:Kn _ _ _); (try clear K); rename Kn _ _ _ => K))); conv => whnf
    have hgm := K.get (w := true) (.there (.there .here))
    rw [aym_lookD (k := k) enc_i hgm]
    rotate_left
    · rfl
    · rfl
    rw [look0]
    conv => whnf
    refine kgo ?_; (repeat (first | intro (X:Nat) | intro (z:St) | intro (av:V) | intro (tk:Option Nat) | (intro (K1:Kn _ _ _); (try clear K); rename Kn _ _ _ => K))); conv => whnf
    rw [aym_lookD (k := k) enc_i hgm]
    rotate_left
    · rfl
    · rfl
    rw [look0]
    conv => whnf
    refine kgo ?_; (repeat (first | intro (X:Nat) | intro (z:St) | intro (av:V) | intro (tk:Option Nat) | (intro (K1:Kn _ _ _); (try clear K); rename Kn _ _ _ => K))); conv => whnf
    intro hg'
    exact ⟨ks.length - (i + 1), fg [4, 5, 6, 7, 17, 18, 19] _, _, by omega, WkM.fg hg', i + 1, av, tk, hlt, rfl, rfl, K.cast (by rw [List.take_add_one, hki, Option.toList_some, List.map_append, List.map_append]; rfl)⟩
  · rw [List.take_of_length_le hge] at K
    refine kgo ?_; (repeat (first | intro (X:Nat) | intro (z:St) | intro (av:V) | intro (tk:Option Nat) | (intro (K1:Kn _ _ _); (try clear K); rename Kn _ _ _ => K))); conv => whnf
    exact K.fin hty hx (.tu _ fun c hc => by
      simp only [List.mem_cons, List.not_mem_nil, or_false] at hc
      rcases hc with rfl | rfl
      · exact rows_nm _
      · exact .i _ _) (.tus _ _ (.cons (.one (K.vw .here)) (.cons (.one (.refl _)) .nil)))
end Go.Proofs.YthoojnjcdllgdaaGreatDoor
