/-
  Contract: the document's longest silence. No statement stands here.
-/
import Derived.Test.YthoojnjcdllgdaaGreatDoorTzd
set_option linter.all false
namespace Go.Proofs.YthoojnjcdllgdaaGreatDoor
open Go Rf TallyP
set_option maxRecDepth 100000
set_option maxHeartbeats 4000000

def pickR (o : Option Gp) (g : Gp) : Option Gp := match o with
  | none => some g
  | some c => if ltZ (gl c) (gl g) = true then some g else some c
def rinS (p : Int) (st : Option Int × Option Gp) (m : Mv) : Option Int × Option Gp :=
  if eqZ m.to p = true then (some m.t, match st.1 with
    | none => st.2
    | some fr => pickR st.2 (p, fr, m.t)) else st
def rsil (es : List Mv) (l : List RwP) : Option Gp := l.foldl (fun o w => (es.foldl (rinS w.1) (none, o)).2) none
noncomputable def c24l : C := sI (sI (sB (sA (sB (sB (sB (sB (sB f24.body))))))))
noncomputable def c24b : C := sI (sA (sB c24l))
def ES1 (xv : V) (l : List RwP) (A B : Nat) (b : Bool) (k : Nat) : List V := (.bad :: .bad :: .p A 0 :: .bad :: xv :: .pu 5 (l.map fun x => .ag (csP x)) .u :: .p B 0 :: .b b :: .i .i64 (k : Nat) :: List.replicate 72 .bad)
def ES2 (xv : V) (l : List RwP) (A B : Nat) (b : Bool) (k : Nat) (j : Int) (i : Nat) : List V := (.bad :: .bad :: .p A 0 :: .bad :: xv :: .pu 5 (l.map fun x => .ag (csP x)) .u :: .p B 0 :: .b b :: .i .i64 (k : Nat) :: .i .i64 j :: .i .i64 (i : Nat) :: List.replicate 70 .bad)
def KB (B A : Nat) (o : Option Gp) : List En := [.ob true B (.c (gpC o) 0 (some 81)), .ob true A (.c [.i .i64 0, .i .i64 0, .i .i64 0] 0 (some 81))]
theorem rin24 {s z : St} {A B : Nat} {Q : XM → List V → St → Prop} (ms : List Mv) (l : List RwP) (k : Nat) (w : RwP) (hk : l[k]? = some w) (o : Option Gp) (hE : (evs ms).length ≤ 1000) (K : Kn s z (KB B A o))
    (hQ : ∀ e z', fg [2, 4, 5, 6, 7, 8] e = ES1 (.pu 9 ((evs ms).map Mv.o) .u) l A B (((evs ms).foldl (rinS w.1) (none, o)).2).isSome k → Kn s z' (KB B A ((evs ms).foldl (rinS w.1) (none, o)).2) → Q .nrm e z') :
    HM gt0 Tryz.prog s c24b (ES1 (.pu 9 ((evs ms).map Mv.o) .u) l A B o.isSome k) z Q := by
  obtain ⟨E, hEE⟩ : ∃ E, E = evs ms := ⟨_, rfl⟩
  rw [← hEE] at hE hQ ⊢
  have hEm : (E.map Mv.o).length = E.length := List.length_map ..
  have hmk : (l.map fun x => V.ag (csP x))[((k : Nat) : Int).toNat]? = some (.ag (csP w)) := by simp [hk]
  unfold KB at K
  refine kgo ?_; (repeat (first | intro (X:Nat) | intro (z:St) | intro (av:V) | intro (tk:Option Nat) | (intro (K1:Kn _ _ _); (try clear K); rename Kn _ _ _ => K))); conv => whnf
  refine HM.loop gnm0 fun hg => ⟨fun n e z => ∃ (i : Nat) (j : Int) (q : Option Int × Option Gp), i ≤ E.length ∧ n = E.length - i ∧ e = ES2 (.pu 9 (E.map Mv.o) .u) l A B q.2.isSome k j i ∧ (E.take i).foldl (rinS w.1) (none, o) = q ∧ ((j = -1 ∧ q.1 = none) ∨ ∃ (jn : Nat) (mj : Mv), j = jn ∧ E[jn]? = some mj ∧ q.1 = some mj.t) ∧ Kn s z (KB B A q.2),
    ⟨E.length, fg [2, 4, 5, 6, 7, 8, 9, 10] _, _, WkM.fg hg, 0, -1, (none, o), Nat.zero_le _, rfl, rfl, rfl, .inl ⟨rfl, rfl⟩, K⟩, ?_⟩
  clear K
  rintro n e z1 ⟨i, j, ⟨la, o'⟩, hi, rfl, rfl, hq, hj, K⟩
  obtain ⟨c1, c2, c3, hc⟩ : ∃ c1 c2 c3, gpC o' = [.i .i64 c1, .i .i64 c2, .i .i64 c3] := by cases o' <;> exact ⟨_, _, _, rfl⟩
  unfold KB at K
  simp only [hc] at K
  conv => whnf
  refine kgo ?_; (repeat (first | intro (X:Nat) | intro (z:St) | intro (av:V) | intro (tk:Option Nat) | (intro (K1:Kn _ _ _); (try clear K); rename Kn _ _ _ => K))); conv => whnf
  rw [hEm]
  refine brL ⟨fun hlt => ?_, fun hge => ?_⟩ <;> conv => whnf
  · have hm : E[i]? = some E[i] := List.getElem?_eq_getElem hlt
    generalize E[i] = m at hm
    have hmm : (E.map Mv.o)[((i : Nat) : Int).toNat]? = some m.o := by simp [hm]
    have hst : (E.take (i + 1)).foldl (rinS w.1) (none, o) = rinS w.1 (la, o') m := by
      rw [List.take_add_one, hm, List.foldl_append, hq]; rfl
    refine kgo ?_; (repeat (first | intro (X:Nat) | intro (z:St) | intro (av:V) | intro (tk:Option Nat) | (intro (K1:Kn _ _ _); (try clear K); rename Kn _ _ _ => K))); conv => whnf
    cases hp : eqZ m.to w.1 <;> conv => whnf
    · refine kgo ?_; (repeat (first | intro (X:Nat) | intro (z:St) | intro (av:V) | intro (tk:Option Nat) | (intro (K1:Kn _ _ _); (try clear K); rename Kn _ _ _ => K))); conv => whnf
      intro hg'
      exact ⟨E.length - (i + 1), fg [2, 4, 5, 6, 7, 8, 9, 10] _, _, by omega, WkM.fg hg', i + 1, j, (la, o'), hlt, rfl, rfl, by rw [hst]; unfold rinS; rw [if_neg (by rw [hp]; simp)], hj, by unfold KB; rw [hc]; exact K⟩
    · refine kgo ?_; (repeat (first | intro (X:Nat) | intro (z:St) | intro (av:V) | intro (tk:Option Nat) | (intro (K1:Kn _ _ _); (try clear K); rename Kn _ _ _ => K))); conv => whnf
      rcases hj with ⟨rfl, h0⟩ | ⟨jn, mj, rfl, hmj, h1⟩
      · simp only at h0
        subst h0
        conv => whnf
        refine kgo ?_; (repeat (first | intro (X:Nat) | intro (z:St) | intro (av:V) | intro (tk:Option Nat) | (intro (K1:Kn _ _ _); (try clear K); rename Kn _ _ _ => K))); conv => whnf
        intro hg'
        exact ⟨E.length - (i + 1), fg [2, 4, 5, 6, 7, 8, 9, 10] _, _, by omega, WkM.fg hg', i + 1, ((i : Nat) : Int), (some m.t, o'), hlt, rfl, rfl, by rw [hst]; unfold rinS; rw [if_pos hp], .inr ⟨i, m, rfl, hm, rfl⟩, by unfold KB; rw [hc]; exact K⟩
      · simp only at h1
        subst h1
        have hmmj : (E.map Mv.o)[((jn : Nat) : Int).toNat]? = some mj.o := by simp [hmj]
        have hrs : (E.take (i + 1)).foldl (rinS w.1) (none, o) = (some m.t, pickR o' (w.1, mj.t, m.t)) := by rw [hst]; unfold rinS; rw [if_pos hp]
        rw [show leZ 0 ((jn : Nat) : Int) = true by rw [leZ_eq]; simp]
        cases o' with
        | none =>
          conv => whnf
          refine kgo ?_; (repeat (first | intro (X:Nat) | intro (z:St) | intro (av:V) | intro (tk:Option Nat) | (intro (K1:Kn _ _ _); (try clear K); rename Kn _ _ _ => K))); conv => whnf
          intro hg'
          exact ⟨E.length - (i + 1), fg [2, 4, 5, 6, 7, 8, 9, 10] _, _, by omega, WkM.fg hg', i + 1, ((i : Nat) : Int), (some m.t, some (w.1, mj.t, m.t)), hlt, rfl, rfl, hrs.trans (by rw [show pickR none (w.1, mj.t, m.t) = some (w.1, mj.t, m.t) from rfl]), .inr ⟨i, m, rfl, hm, rfl⟩, by unfold KB; exact K.drop0 rfl⟩
        | some c =>
          obtain ⟨d1, d2, d3⟩ := c
          simp only [gpC, List.cons.injEq, V.i.injEq, true_and, and_true] at hc
          obtain ⟨rfl, rfl, rfl⟩ := hc
          have hbe : pickR (some (d1, d2, d3)) (w.1, mj.t, m.t) = if ltZ (wrapF .i64 (d3 - d2)) (wrapF .i64 (m.t - mj.t)) = true then some (w.1, mj.t, m.t) else some (d1, d2, d3) := rfl
          conv => whnf
          refine kgo ?_; (repeat (first | intro (X:Nat) | intro (z:St) | intro (av:V) | intro (tk:Option Nat) | (intro (K1:Kn _ _ _); (try clear K); rename Kn _ _ _ => K))); conv => whnf
          cases q1 : ltZ (wrapF .i64 (d3 - d2)) (wrapF .i64 (m.t - mj.t)) <;> conv => whnf
          · refine kgo ?_; (repeat (first | intro (X:Nat) | intro (z:St) | intro (av:V) | intro (tk:Option Nat) | (intro (K1:Kn _ _ _); (try clear K); rename Kn _ _ _ => K))); conv => whnf
            intro hg'
            exact ⟨E.length - (i + 1), fg [2, 4, 5, 6, 7, 8, 9, 10] _, _, by omega, WkM.fg hg', i + 1, ((i : Nat) : Int), (some m.t, some (d1, d2, d3)), hlt, rfl, rfl, hrs.trans (by rw [hbe, if_neg (by rw [q1]; simp)]), .inr ⟨i, m, rfl, hm, rfl⟩, by unfold KB; exact K.drop0 rfl⟩
          · refine kgo ?_; (repeat (first | intro (X:Nat) | intro (z:St) | intro (av:V) | intro (tk:Option Nat) | (intro (K1:Kn _ _ _); (try clear K); rename Kn _ _ _ => K))); conv => whnf
            intro hg'
            exact ⟨E.length - (i + 1), fg [2, 4, 5, 6, 7, 8, 9, 10] _, _, by omega, WkM.fg hg', i + 1, ((i : Nat) : Int), (some m.t, some (w.1, mj.t, m.t)), hlt, rfl, rfl, hrs.trans (by rw [hbe, if_pos q1]), .inr ⟨i, m, rfl, hm, rfl⟩, by unfold KB; exact K.drop0 rfl⟩
  · rw [List.take_of_length_le hge] at hq
    refine kgo ?_; (repeat (first | intro (X:Nat) | intro (z:St) | intro (av:V) | intro (tk:Option Nat) | (intro (K1:Kn _ _ _); (try clear K); rename Kn _ _ _ => K))); conv => whnf
    rw [hq] at hQ
    exact hQ _ _ rfl (by unfold KB; simp only [hc]; exact K)
theorem sil24_den (ms : List Mv) (hms : ms.length ≤ 1000) (hn : ∀ m ∈ ms, Nm s0.L m.v) (hP : (refP (evs ms)).length ≤ 100000) (s : St) (hx : NoX s) :
    Den gt0 Tryz.prog 24 [.pu 47 (ms.map Mv.v) .u] s (silV (rsil (evs ms) (refP (evs ms)))) s := by
  have hE : (evs ms).length ≤ 1000 := by
    have := List.length_filter_le isEv ms
    unfold evs; omega
  refine Den.tidy fun hty => Den.hm gnm0 hF24 ?_
  have K := Kn.init hty.1 hx
  conv => whnf
  refine kgo ?_; (repeat (first | intro (X:Nat) | intro (z:St) | intro (av:V) | intro (tk:Option Nat) | (intro (K1:Kn _ _ _); (try clear K); rename Kn _ _ _ => K))); conv => whnf
  refine ⟨_, _, events_den ms hms hn _ K.x, ?_⟩
  conv => whnf
  refine kgo ?_; (repeat (first | intro (X:Nat) | intro (z:St) | intro (av:V) | intro (tk:Option Nat) | (intro (K1:Kn _ _ _); (try clear K); rename Kn _ _ _ => K))); conv => whnf
  refine ⟨_, _, refP_den ms hms hn _ K.x, ?_⟩
  generalize refP (evs ms) = l at hP ⊢
  have hll : (l.map fun x => V.ag (csP x)).length = l.length := List.length_map ..
  conv => whnf
  refine kgo ?_; (repeat (first | intro (X:Nat) | intro (z:St) | intro (av:V) | intro (tk:Option Nat) | (intro (K1:Kn _ _ _); (try clear K); rename Kn _ _ _ => K))); conv => whnf
  rename_i A _
  obtain ⟨B, hB⟩ : ∃ B, B = X := ⟨_, rfl⟩
  rw [← hB] at K ⊢
  refine HM.loop gnm0 fun hg => ⟨fun n e z => ∃ (k : Nat) (o : Option Gp), k ≤ l.length ∧ n = l.length - k ∧ e = ES1 (.pu 9 ((evs ms).map Mv.o) .u) l A B o.isSome k ∧ rsil (evs ms) (l.take k) = o ∧ Kn s z (KB B A o),
    ⟨l.length, fg [2, 4, 5, 6, 7, 8] _, _, WkM.fg hg, 0, none, Nat.zero_le _, rfl, rfl, rfl, K⟩, ?_⟩
  clear K
  rintro n e z1 ⟨k, o, hk, rfl, rfl, ho, K⟩
  conv => whnf
  refine kgo ?_; (repeat (first | intro (X:Nat) | intro (z:St) | intro (av:V) | intro (tk:Option Nat) | (intro (K1:Kn _ _ _); (try clear K); rename Kn _ _ _ => K))); conv => whnf
  rw [hll]
  refine brL ⟨fun hlt => ?_, fun hge => ?_⟩ <;> conv => whnf
  · have hw : l[k]? = some l[k] := List.getElem?_eq_getElem hlt
    generalize l[k] = w at hw
    have hst : rsil (evs ms) (l.take (k + 1)) = ((evs ms).foldl (rinS w.1) (none, o)).2 := by
      unfold rsil at ho ⊢
      rw [List.take_add_one, hw, List.foldl_append, ho]; rfl
    refine HM.skip ?_
    refine HM.seq (HM.blk ?_)
    refine HM.fgt (c := c24b) gnm0 [2, 4, 5, 6, 7, 8] fun _ => ?_
    refine rin24 ms l k w hw o hE K fun e z2 he K => ?_
    refine HM.fgt (c := .ops _) gnm0 [2, 4, 5, 6, 7, 8] fun _ => ?_
    rw [he]
    conv => whnf
    refine kgo ?_; (repeat (first | intro (X:Nat) | intro (z:St) | intro (av:V) | intro (tk:Option Nat) | (intro (K1:Kn _ _ _); (try clear K); rename Kn _ _ _ => K))); conv => whnf
    intro hg'
    exact ⟨l.length - (k + 1), fg [2, 4, 5, 6, 7, 8] _, _, by omega, WkM.fg hg', k + 1, _, hlt, rfl, rfl, hst, K⟩
  · rw [List.take_of_length_le hge] at ho
    rw [ho]
    have hon := silV_nm (n := s.L) o
    unfold silV at hon ⊢
    unfold KB at K
    cases o with
    | none =>
      simp only [gpC] at K
      refine kgo ?_; (repeat (first | intro (X:Nat) | intro (z:St) | intro (av:V) | intro (tk:Option Nat) | (intro (K1:Kn _ _ _); (try clear K); rename Kn _ _ _ => K))); conv => whnf
      exact K.ret [.ag [.i .i64 0, .i .i64 0, .i .i64 0], .b false] hty hx hon (.refl _)
    | some g =>
      simp only [gpC] at K
      refine kgo ?_; (repeat (first | intro (X:Nat) | intro (z:St) | intro (av:V) | intro (tk:Option Nat) | (intro (K1:Kn _ _ _); (try clear K); rename Kn _ _ _ => K))); conv => whnf
      exact K.ret [.ag [.i .i64 g.1, .i .i64 g.2.1, .i .i64 g.2.2], .b true] hty hx hon (.refl _)
end Go.Proofs.YthoojnjcdllgdaaGreatDoor
