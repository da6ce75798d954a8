import Derived.Test.YthoojnjcdllgdaaGreatDoorTre
import Derived.Test.YthoojnjcdllgdaaGreatDoorRefP
/-
  Rows of sums, plainly. No statement stands here.
-/
set_option linter.all false
namespace Go.Proofs.YthoojnjcdllgdaaGreatDoor
open Go Rf TallyP
set_option maxRecDepth 100000
set_option maxHeartbeats 4000000

def Mv.wf (m : Mv) : Prop := (Lit.int .i64 m.og).wf = true ∧ (Lit.int .i64 m.to).wf = true ∧ (Lit.int .i64 m.kd).wf = true
def gaG {K : Type} [DecidableEq K] (kf : Mv → K) (ms : List Mv) : List (K × Sm) := ms.foldl (gath kf) []
def spRP (R : List ((Int × Int) × Sm)) : List ((Int × Int) × Sm) := (sortP (keysL R)).map fun k => (k, getS k R)
theorem nm_rows {α : Type} {n : Nat → Prop} {w : Nat} {f : α → List V} (l : List α) (h : ∀ x, ∀ c ∈ f x, Nm n c) : Nm n (.pu w (l.map fun x => .ag (f x)) .u) := .pu _ _ _ (fun v hv => by
  obtain ⟨x, -, rfl⟩ := List.mem_map.1 hv
  exact .ag _ (h x)) (fun k hk => by cases hk)
end Go.Proofs.YthoojnjcdllgdaaGreatDoor
/-
  Contract: the code's sums (P). No statement stands here.
-/
set_option linter.all false
namespace Go.Proofs.YthoojnjcdllgdaaGreatDoor
open Go Rf TallyP
set_option maxRecDepth 100000
set_option maxHeartbeats 4000000

def rowP (x : Int × Sm) : RwP := x
def ESP (M : Nat) (av : V) (ks : List Int) (i : Nat) : List V := (.bad :: .bad :: av :: .m M :: .bad :: .bad :: .bad :: .bad :: .bad :: .bad :: .bad :: .pu 1 (ks.map (fun k => V.i .i64 k)) .u :: .i .i64 (ks.length : Nat) :: .i .i64 (i : Nat) :: List.replicate 21 .bad)
theorem talP_den (ms : List Mv) (hms : ms.length ≤ 1000) (hn : ∀ m ∈ ms, Nm s0.L m.v) (hw : ∀ m ∈ ms, m.wf) (s : St) (hx : NoX s) :
    Den gt0 Tryz.prog 12 [.pu 47 (ms.map Mv.v) .u] s (.pu 5 ((spR (gaG (fun m => m.to) ms)).map fun x => .ag (csP (rowP x))) .u) s := by
  obtain ⟨g1, g2, g3⟩ := gath_ok (kf := fun m => m.to) (P := fun k => (Lit.int .i64 k).wf = true) ms [] List.nodup_nil (fun k hk => by cases hk) (fun m hm => (hw m hm).2.1)
  refine Den.tidy fun hty => Den.hm gnm0 hF12 ?_
  have K := Kn.init hty.1 hx
  conv => whnf
  refine kgo ?_; (repeat (first | intro (X:Nat) | intro (z:St) | intro (av:V) | intro (tk:Option Nat) | (intro (K1:Kn _ _ _); (try clear K); rename Kn _ _ _ => K))); conv => whnf
  obtain ⟨R, hR⟩ : ∃ R, gaG (fun m => m.to) ms = R := ⟨_, rfl⟩
  refine ⟨_, _, gathI_den hG31 32 [] (fun m => m.to) ms hn hms (by kernel_rfl) (fun m hm => c31_den m (hn m hm)) s hx R hR, ?_⟩
  rw [hR]
  unfold gaG at hR
  rw [hR] at g1 g2 g3
  have K1 := K.newX (.mp (mEs iE smV R 0) R.length)
  clear K; rename Kn _ _ _ => K
  generalize s.new (.x (.mp (mEs iE smV R 0) R.length)) = z1 at K ⊢
  conv => whnf
  refine kgo ?_; (repeat (first | intro (X:Nat) | intro (z:St) | intro (av:V) | intro (tk:Option Nat) | (intro (K1:Kn _ _ _); (try clear K); rename Kn _ _ _ => K))); conv => whnf
  refine ⟨_, _, keys33_den, ?_⟩
  have K1 := K.new (o := .c [.m s.n] 0 (some 98)) rfl
  clear K; rename Kn _ _ _ => K
  have hB := K.get (w := true) .here
  have hM := K.get (w := true) (.there .here)
  have hsd := sorted32_den hB hM rfl g2 g1 (by simp only [List.length_nil] at g3; omega)
  clear hB hM
  generalize z1.new (.c [.m s.n] 0 (some 98)) = z2 at K hsd ⊢
  generalize z1.n = B at K hsd ⊢
  obtain ⟨ks, hks⟩ : ∃ ks, sortI (keysL R) = ks := ⟨_, rfl⟩
  have hrow : spR R = ks.map fun k => (k, getS k R) := by unfold spR; rw [hks]
  have hkl : ks.length ≤ 1000 := by rw [← hks]; unfold sortI; rw [List.length_mergeSort]; simp only [List.length_nil] at g3; simp [keysL]; omega
  unfold sortI at hks
  rw [hks] at hsd
  rw [hrow]
  have hll : (ks.map (fun k => V.i .i64 k)).length = ks.length := List.length_map ..
  conv => whnf
  refine kgo ?_; (repeat (first | intro (X:Nat) | intro (z:St) | intro (av:V) | intro (tk:Option Nat) | (intro (K1:Kn _ _ _); (try clear K); rename Kn _ _ _ => K))); conv => whnf
  refine ⟨_, _, hsd, ?_⟩
  conv => whnf
  refine kgo ?_; (repeat (first | intro (X:Nat) | intro (z:St) | intro (av:V) | intro (tk:Option Nat) | (intro (K1:Kn _ _ _); (try clear K); rename Kn _ _ _ => K))); conv => whnf
  rw [hll]
  refine HM.loop gnm0 fun hg => ⟨fun n e z => ∃ (i : Nat) (av : V) (tk : Option Nat), i ≤ ks.length ∧ n = ks.length - i ∧ e = ESP s.n av ks i ∧ Kn s z [.ac 5 av (((ks.take i).map fun k => (k, getS k R)).map fun x => .ag (csP (rowP x))) tk, .ob true B (.c [.m s.n] 0 (some 98)), .ob true s.n (.x (.mp (mEs iE smV R 0) R.length))],
    ⟨ks.length, fg [2, 3, 11, 12, 13] _, _, WkM.fg hg, 0, .ns, none, Nat.zero_le _, rfl, rfl, K.acc0 5⟩, ?_⟩
  clear K
  rintro n e z1 ⟨i, av, tk, hi, rfl, rfl, K⟩
  conv => whnf
  refine kgo ?_; (repeat (first | intro (X:Nat) | intro (z:St) | intro (av:V) | intro (tk:Option Nat) | (intro (K1:Kn _ _ _); (try clear K); rename Kn _ _ _ => K))); conv => whnf
  refine brL ⟨fun hlt => ?_, fun hge => ?_⟩ <;> conv => whnf
  · have hki : ks[i]? = some ks[i] := List.getElem?_eq_getElem hlt
    generalize ks[i] = k at hki
    have htl : (((ks.take i).map fun k => (k, getS k R)).map fun x => V.ag (csP (rowP x))).length ≤ 1000 := by simp; omega
    refine kgo ?_; (repeat (first | intro (X:Nat) | intro (z:St) | intro (av:V) | intro (tk:Option Nat) | (intro (K1:Kn _ _ _); (try clear K); rename Kn _ _ _ => K))); conv => whnf
    have hgm := K.get (w := true) (.there (.there .here))
    rw [aym_lookD (k := k) enc_i hgm]
    rotate_left
    · rfl
    · rfl
    rw [look0]
    conv => whnf
    refine kgo ?_; (repeat (first | intro (X:Nat) | intro (z:St) | intro (av:V) | intro (tk:Option Nat) | (intro (K1:Kn _ _ _); (try clear K); rename Kn _ _ _ => K))); conv => whnf
    intro hg'
    exact ⟨ks.length - (i + 1), fg [2, 3, 11, 12, 13] _, _, by omega, WkM.fg hg', i + 1, av, tk, hlt, rfl, rfl, (K.drop0 rfl).cast (by rw [List.take_add_one, hki, Option.toList_some, List.map_append, List.map_append]; rfl)⟩
  · rw [List.take_of_length_le hge] at K
    refine kgx ?_; (repeat (first | intro (X:Nat) | intro (z:St) | intro (av:V) | intro (tk:Option Nat) | (intro (K1:Kn _ _ _); (try clear K); rename Kn _ _ _ => K))); conv => whnf
    refine kvw (t := 2) nthx ?_ K .here
    conv => whnf
    refine kgo ?_; (repeat (first | intro (X:Nat) | intro (z:St) | intro (av:V) | intro (tk:Option Nat) | (intro (K1:Kn _ _ _); (try clear K); rename Kn _ _ _ => K))); conv => whnf
    exact K.fin hty hx (nm_rows _ fun x c hc => by
      simp only [csP, rowP, List.mem_cons, List.not_mem_nil, or_false] at hc
      rcases hc with rfl | rfl | rfl | rfl | rfl <;> exact .i _ _) (.refl _)
end Go.Proofs.YthoojnjcdllgdaaGreatDoor
