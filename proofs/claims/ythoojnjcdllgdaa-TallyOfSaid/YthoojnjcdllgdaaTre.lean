/-
  Contracts: the document's events and windows. No statement stands here.
-/
import Derived.Test.YthoojnjcdllgdaaTsp
set_option linter.all false
namespace Go.Proofs.Ythoojnjcdllgdaa
open Go Rf TallyP
set_option maxRecDepth 100000
set_option maxHeartbeats 4000000

def Mv.o (m : Mv) : V := .ag [.i .i64 m.ok, .i .i64 m.t, .i .i64 m.og, m.d 40, .i .i64 m.to, .i .i64 m.kd, m.d 43, .pu 6 m.rl .u, m.d 45]
def evs (ms : List Mv) : List Mv := ms.filter isEv
theorem evs_nm {ms : List Mv} {n : Nat → Prop} (hn : ∀ m ∈ ms, Nm s0.L m.v) : Nm n (.pu 9 ((evs ms).map Mv.o) .u) := by
  refine .pu _ _ _ (fun v hv => ?_) (fun k hk => by cases hk)
  obtain ⟨m, hm, rfl⟩ := List.mem_map.1 hv
  have h := mv_cell (hn m (List.mem_filter.1 hm).1)
  have e : ∀ {c : V}, Nm s0.L c → Nm n c := fun h => h.mono fun _ h => (Nat.not_lt_zero _ h.1).elim
  refine .ag _ fun c hc => e (h c ?_)
  simp only [List.mem_cons, List.not_mem_nil, or_false] at hc
  rcases hc with rfl | rfl | rfl | rfl | rfl | rfl | rfl | rfl | rfl <;> simp [Mv.c]
def EV (ms : List Mv) (av : V) (i : Nat) : List V := (.pu 47 (ms.map Mv.v) .u :: .bad :: .bad :: av :: .i .i64 (i : Nat) :: List.replicate 30 .bad)
theorem events_den (ms : List Mv) (hms : ms.length ≤ 1000) (hn : ∀ m ∈ ms, Nm s0.L m.v) (s : St) (hx : NoX s) : Den gt0 Try.prog 27 [.pu 47 (ms.map Mv.v) .u] s (.pu 9 ((evs ms).map Mv.o) .u) s := by
  have hll : (ms.map Mv.v).length = ms.length := List.length_map ..
  refine Den.tidy fun hty => Den.hm gnm0 hF27 ?_
  have K := Kn.init hty.1 hx
  conv => whnf
  refine kgo ?_; (repeat (first | intro (X:Nat) | intro (z:St) | intro (av:V) | intro (tk:Option Nat) | (intro (K1:Kn _ _ _); (try clear K); rename Kn _ _ _ => K))); conv => whnf
  refine HM.loop gnm0 fun hg => ⟨fun n e z => ∃ (i : Nat) (av : V) (tk : Option Nat), i ≤ ms.length ∧ n = ms.length - i ∧ e = EV ms av i ∧ Kn s z [.ac 9 av ((evs (ms.take i)).map Mv.o) tk],
    ⟨ms.length, fg [0, 3, 4] _, _, WkM.fg hg, 0, .ns, none, Nat.zero_le _, rfl, rfl, K.acc0 9⟩, ?_⟩
  clear K
  rintro n e z1 ⟨i, av, tk, hi, rfl, rfl, K⟩
  conv => whnf
  refine kgo ?_; (repeat (first | intro (X:Nat) | intro (z:St) | intro (av:V) | intro (tk:Option Nat) | (intro (K1:Kn _ _ _); (try clear K); rename Kn _ _ _ => K))); conv => whnf
  rw [hll]
  refine brL ⟨fun hlt => ?_, fun hge => ?_⟩ <;> conv => whnf
  · have hmi : ms[i]? = some ms[i] := List.getElem?_eq_getElem hlt
    have hst : evs (ms.take (i + 1)) = evs (ms.take i) ++ (if isEv ms[i] then [ms[i]] else []) := by
      unfold evs
      rw [List.take_add_one, hmi, List.filter_append]
      cases h : isEv ms[i] <;> simp [h]
    have htl : (evs (ms.take i)).length ≤ 1000 := by
      have := List.length_filter_le isEv (ms.take i)
      rw [List.length_take] at this
      unfold evs; omega
    generalize ms[i] = m at hmi hst
    refine kgo ?_; (repeat (first | intro (X:Nat) | intro (z:St) | intro (av:V) | intro (tk:Option Nat) | (intro (K1:Kn _ _ _); (try clear K); rename Kn _ _ _ => K))); conv => whnf
    cases h1 : eqZ m.k 2 <;> conv => whnf
    · have hev : isEv m = false := by simp [isEv, h1]
      rw [hev] at hst
      refine kgo ?_; (repeat (first | intro (X:Nat) | intro (z:St) | intro (av:V) | intro (tk:Option Nat) | (intro (K1:Kn _ _ _); (try clear K); rename Kn _ _ _ => K))); conv => whnf
      intro hg'
      exact ⟨ms.length - (i + 1), fg [0, 3, 4] _, _, by omega, WkM.fg hg', i + 1, av, tk, hlt, rfl, rfl, K.cast (by rw [hst]; simp)⟩
    · refine kgo ?_; (repeat (first | intro (X:Nat) | intro (z:St) | intro (av:V) | intro (tk:Option Nat) | (intro (K1:Kn _ _ _); (try clear K); rename Kn _ _ _ => K))); conv => whnf
      cases h2 : eqZ m.ok 1 <;> conv => whnf
      · have hev : isEv m = false := by simp [isEv, h1, h2]
        rw [hev] at hst
        refine kgo ?_; (repeat (first | intro (X:Nat) | intro (z:St) | intro (av:V) | intro (tk:Option Nat) | (intro (K1:Kn _ _ _); (try clear K); rename Kn _ _ _ => K))); conv => whnf
        intro hg'
        exact ⟨ms.length - (i + 1), fg [0, 3, 4] _, _, by omega, WkM.fg hg', i + 1, av, tk, hlt, rfl, rfl, K.cast (by rw [hst]; simp)⟩
      · have hev : isEv m = true := by simp [isEv, h1, h2]
        rw [hev] at hst
        refine kgo ?_; (repeat (first | intro (X:Nat) | intro (z:St) | intro (av:V) | intro (tk:Option Nat) | (intro (K1:Kn _ _ _); (try clear K); rename Kn _ _ _ => K))); conv => whnf
        intro hg'
        exact ⟨ms.length - (i + 1), fg [0, 3, 4] _, _, by omega, WkM.fg hg', i + 1, av, tk, hlt, rfl, rfl, K.cast (by rw [hst, List.map_append]; rfl)⟩
  · rw [List.take_of_length_le hge] at K
    refine kgx ?_; (repeat (first | intro (X:Nat) | intro (z:St) | intro (av:V) | intro (tk:Option Nat) | (intro (K1:Kn _ _ _); (try clear K); rename Kn _ _ _ => K))); conv => whnf
    refine kvw (t := 3) nthx ?_ K .here
    conv => whnf
    refine kgo ?_; (repeat (first | intro (X:Nat) | intro (z:St) | intro (av:V) | intro (tk:Option Nat) | (intro (K1:Kn _ _ _); (try clear K); rename Kn _ _ _ => K))); conv => whnf
    exact K.fin hty hx (evs_nm hn) (.refl _)
end Go.Proofs.Ythoojnjcdllgdaa
