/-
  The law, walked: TallyTable. No statement stands here.
-/
import Derived.Test.YthoojnjcdllgdaaGreatDoorTzm
import Derived.Test.YthoojnjcdllgdaaGreatDoorTkn
set_option linter.all false
namespace Go.Proofs.YthoojnjcdllgdaaGreatDoor
open Go Rf TallyP
set_option maxRecDepth 100000
set_option maxHeartbeats 4000000

theorem lines_len (h : List UInt8) (P : List RwP) (K : List RwK) (S : List Rw2) (F : List RwF) (o : Option Gp) : (lines h P K S F o).length ≤ 3 + P.length + K.length + S.length + F.length := by
  have h1 := busy_len P
  have h2 : (slL o).length ≤ 1 := by unfold slL; cases o <;> simp
  unfold lines
  simp only [List.length_append, List.length_map, List.length_cons, List.length_nil]
  omega
theorem nil_nm {n : Nat → Prop} : Nm n (.tu [.pu 1 [] .u, .i .i64 2]) := by
  refine .tu _ fun c hc => ?_
  simp only [List.mem_cons, List.not_mem_nil, or_false] at hc
  rcases hc with rfl | rfl
  · refine .pu _ _ _ (fun v hv => ?_) (fun k h => by cases h)
    cases hv
  · exact .i _ _
theorem tab6_no (ms : List Mv) (len : Int) (hl : ltZ len 1 = true) (s : St) (hx : NoX s) : Den gt1 Tryz.prog 6 [.pu 47 (ms.map Mv.v) .u, .i .i64 len] s (.tu [.pu 1 [] .u, .i .i64 2]) s := by
  have hG6 : cF gt1 Tryz.prog (wfa 6) 6 = some f6 := by kernel_rfl
  refine Den.tidy fun hty => Den.hm gnm1 hG6 ?_
  have K := Kn.init hty.1 hx
  conv => whnf
  refine kgo ?_; (repeat (first | intro (X:Nat) | intro (z:St) | intro (av:V) | intro (tk:Option Nat) | (intro (K1:Kn _ _ _); (try clear K); rename Kn _ _ _ => K))); conv => whnf
  refine ⟨_, _, up0 (spans8_no _ len hl _ K.x), ?_⟩
  conv => whnf
  refine kgo ?_; (repeat (first | intro (X:Nat) | intro (z:St) | intro (av:V) | intro (tk:Option Nat) | (intro (K1:Kn _ _ _); (try clear K); rename Kn _ _ _ => K))); conv => whnf
  exact K.fin hty hx nil_nm (.tus _ _ (.cons (.one (.ns 1)) (.cons (.one (.refl _)) .nil)))
theorem tab7_no (ms : List Mv) (len : Int) (hl : ltZ len 1 = true) (s : St) (hx : NoX s) : Den gt1 Tryz.prog 7 [.pu 47 (ms.map Mv.v) .u, .i .i64 len] s (.tu [.pu 1 [] .u, .i .i64 2]) s := by
  have hG7 : cF gt1 Tryz.prog (wfa 7) 7 = some f7 := by kernel_rfl
  refine Den.tidy fun hty => Den.hm gnm1 hG7 ?_
  have K := Kn.init hty.1 hx
  conv => whnf
  refine kgo ?_; (repeat (first | intro (X:Nat) | intro (z:St) | intro (av:V) | intro (tk:Option Nat) | (intro (K1:Kn _ _ _); (try clear K); rename Kn _ _ _ => K))); conv => whnf
  refine ⟨_, _, up0 (spans9_no _ len hl _ K.x), ?_⟩
  conv => whnf
  refine kgo ?_; (repeat (first | intro (X:Nat) | intro (z:St) | intro (av:V) | intro (tk:Option Nat) | (intro (K1:Kn _ _ _); (try clear K); rename Kn _ _ _ => K))); conv => whnf
  exact K.fin hty hx nil_nm (.tus _ _ (.cons (.one (.ns 1)) (.cons (.one (.refl _)) .nil)))
def ELt (l : List (List UInt8)) (i : Nat) : List V := (.bad :: .bad :: .bad :: .bad :: .bad :: .pu 1 (l.map V.s) .u :: .bad :: .pu 1 (l.map V.s) .u :: .bad :: .i .i64 (i : Nat) :: List.replicate 45 .bad)
theorem tab_cmp {s z : St} {Q : XM → List V → St → Prop} (l : List (List UInt8)) (hl : l.length ≤ 100000) (K : Kn s z [])
    (hQ : ∀ e z', fg [] e = List.replicate 55 .bad → Kn s z' [] → Q .nrm e z') :
    HM gt1 Tryz.prog s (sA (nB 5 f3.body)) (.bad :: .bad :: .bad :: .bad :: .bad :: .pu 1 (l.map V.s) .u :: .bad :: .pu 1 (l.map V.s) .u :: List.replicate 47 .bad) z Q := by
  have hll : (l.map V.s).length = l.length := List.length_map ..
  refine kgo ?_; (repeat (first | intro (X:Nat) | intro (z:St) | intro (av:V) | intro (tk:Option Nat) | (intro (K1:Kn _ _ _); (try clear K); rename Kn _ _ _ => K))); conv => whnf
  refine HM.loop gnm1 fun hg => ⟨fun n e z' => ∃ i : Nat, i ≤ l.length ∧ n = l.length - i ∧ e = ELt l i ∧ Kn s z' [],
    ⟨l.length, fg [5, 7, 9] _, _, WkM.fg hg, 0, Nat.zero_le _, rfl, rfl, K⟩, ?_⟩
  clear K
  rintro n e z1 ⟨i, hi, rfl, rfl, K⟩
  conv => whnf
  refine kgo ?_; (repeat (first | intro (X:Nat) | intro (z:St) | intro (av:V) | intro (tk:Option Nat) | (intro (K1:Kn _ _ _); (try clear K); rename Kn _ _ _ => K))); conv => whnf
  rw [hll]
  refine brL ⟨fun hlt => ?_, fun hge => ?_⟩ <;> conv => whnf
  · have hx : l[i]? = some l[i] := List.getElem?_eq_getElem hlt
    generalize l[i] = x at hx
    have hmi : (l.map V.s)[((i : Nat) : Int).toNat]? = some (.s x) := by simp [hx]
    refine kgo ?_; (repeat (first | intro (X:Nat) | intro (z:St) | intro (av:V) | intro (tk:Option Nat) | (intro (K1:Kn _ _ _); (try clear K); rename Kn _ _ _ => K))); conv => whnf
    rw [beq_self_eq_true]
    conv => whnf
    refine kgo ?_; (repeat (first | intro (X:Nat) | intro (z:St) | intro (av:V) | intro (tk:Option Nat) | (intro (K1:Kn _ _ _); (try clear K); rename Kn _ _ _ => K))); conv => whnf
    intro hg'
    exact ⟨l.length - (i + 1), fg [5, 7, 9] _, _, by omega, WkM.fg hg', i + 1, hlt, rfl, rfl, K⟩
  · refine kgo ?_; (repeat (first | intro (X:Nat) | intro (z:St) | intro (av:V) | intro (tk:Option Nat) | (intro (K1:Kn _ _ _); (try clear K); rename Kn _ _ _ => K))); conv => whnf
    exact hQ _ _ rfl K
theorem tabs_den (ms : List Mv) (len : Int) (hn : ∀ m ∈ ms, Nm s0.L m.v) (hw : ∀ m ∈ ms, m.wf) (hmu : muchGo ms.length ms 0 0 = false) (hb : ltZ 1125899906842624 len = false) :
    ∃ (l : List (List UInt8)) (er : Int), l.length ≤ 100000 ∧ (∀ s, NoX s → Den gt1 Tryz.prog 6 [.pu 47 (ms.map Mv.v) .u, .i .i64 len] s (.tu [.pu 1 (l.map V.s) .u, .i .i64 er]) s) ∧ ∀ s, NoX s → Den gt1 Tryz.prog 7 [.pu 47 (ms.map Mv.v) .u, .i .i64 len] s (.tu [.pu 1 (l.map V.s) .u, .i .i64 er]) s := by
  cases h1 : ltZ len 1
  · rw [ltZ_eq] at h1 hb
    simp only [decide_eq_false_iff_not] at h1 hb
    obtain ⟨h80, ht⟩ := much_ok ms _ 0 0 (by omega) hmu
    obtain ⟨t1, t2, t3, t4, t5, t6, t7, t8, hv, hti⟩ : ∃ t1 t2 t3 t4 t5 t6 t7 t8, (ofT ms).v = vT t1 t2 t3 t4 t5 t6 t7 t8 ∧ tiOk t1 t2 t3 t4 t5 t6 := ⟨_, _, _, _, _, _, _, _, rfl, wr_rng _, wr_rng _, wr_rng _, wr_rng _, wr_rng _, wr_rng _⟩
    have hl5 := lines_len (headV t1 t2 t3 t4 t5 t6) (refP (evs ms)) (refK (evs ms)) (refR len (evs ms)) (refF (evs ms)) (silF (evs ms))
    have hel := List.length_filter_le isEv ms
    have hP : (refP (evs ms)).length ≤ 1000 := by
      have h := ref_lenP (evs ms) (evs ms).length (Nat.le_refl _)
      rw [List.take_length] at h; unfold evs at h ⊢; omega
    have hK : (refK (evs ms)).length ≤ 1000 := by
      have h := ref_lenK (evs ms) (evs ms).length (Nat.le_refl _)
      rw [List.take_length] at h; unfold evs at h ⊢; omega
    have hF : (refF (evs ms)).length ≤ 1000 := by
      have h := ref_lenF (evs ms) (evs ms).length (Nat.le_refl _)
      rw [List.take_length] at h; unfold evs at h ⊢; omega
    have hS : (refR len (evs ms)).length ≤ 1000 := by
      have h := ref_len len (evs ms) (evs ms).length (Nat.le_refl _)
      rw [List.take_length] at h; unfold evs at h ⊢; omega
    exact ⟨_, _, Nat.le_trans hl5 (show _ ≤ 100000 by omega), tab6_den ms len (by omega) (by omega) (by omega) hn hw ht t1 t2 t3 t4 t5 t6 t7 t8 hv hti, tab7_den ms len (by omega) (by omega) (by omega) hn hw ht t1 t2 t3 t4 t5 t6 t7 t8 hv hti⟩
  · exact ⟨[], 2, Nat.zero_le _, tab6_no ms len h1, tab7_no ms len h1⟩
theorem table_law (ms : List Mv) (len : Int) (hn : ∀ m ∈ ms, Nm s0.L m.v) (hw : ∀ m ∈ ms, m.wf) (hl : ms.length ≤ maxLen) (s : St) (hx : NoX s) : Den gt1 Tryz.prog 3 [.pu 47 (ms.map Mv.v) .u, .i .i64 len] s (.b true) s := by
  have hG3 : cF gt1 Tryz.prog (wfa 3) 3 = some f3 := by kernel_rfl
  refine Den.tidy fun hty => Den.hm gnm1 hG3 ?_
  have K := Kn.init hty.1 hx
  conv => whnf
  refine kgo ?_; (repeat (first | intro (X:Nat) | intro (z:St) | intro (av:V) | intro (tk:Option Nat) | (intro (K1:Kn _ _ _); (try clear K); rename Kn _ _ _ => K))); conv => whnf
  refine ⟨_, _, pup0 (much_den ms hn hl) _, ?_⟩
  cases hmu : muchGo ms.length ms 0 0 <;> conv => whnf
  · refine kgo ?_; (repeat (first | intro (X:Nat) | intro (z:St) | intro (av:V) | intro (tk:Option Nat) | (intro (K1:Kn _ _ _); (try clear K); rename Kn _ _ _ => K))); conv => whnf
    cases hb : ltZ 1125899906842624 len <;> conv => whnf
    · obtain ⟨l, er, hl5, d6, d7⟩ := tabs_den ms len hn hw hmu hb
      have eqr : ∀ a : Int, eqZ a a = true := fun a => by rw [eqZ_eq]; simp
      refine kgo ?_; (repeat (first | intro (X:Nat) | intro (z:St) | intro (av:V) | intro (tk:Option Nat) | (intro (K1:Kn _ _ _); (try clear K); rename Kn _ _ _ => K))); conv => whnf
      refine ⟨_, _, d6 _ K.x, ?_⟩
      conv => whnf
      refine kgo ?_; (repeat (first | intro (X:Nat) | intro (z:St) | intro (av:V) | intro (tk:Option Nat) | (intro (K1:Kn _ _ _); (try clear K); rename Kn _ _ _ => K))); conv => whnf
      refine ⟨_, _, d7 _ K.x, ?_⟩
      conv => whnf
      refine kgo ?_; (repeat (first | intro (X:Nat) | intro (z:St) | intro (av:V) | intro (tk:Option Nat) | (intro (K1:Kn _ _ _); (try clear K); rename Kn _ _ _ => K))); conv => whnf
      rw [eqr]
      conv => whnf
      refine kgo ?_; (repeat (first | intro (X:Nat) | intro (z:St) | intro (av:V) | intro (tk:Option Nat) | (intro (K1:Kn _ _ _); (try clear K); rename Kn _ _ _ => K))); conv => whnf
      rw [eqr]
      conv => whnf
      refine HM.skip ?_
      refine HM.fgt (c := nB 5 f3.body) gnm1 [5, 7] fun _ => ?_
      refine HM.seq (a := sA (nB 5 f3.body)) ?_
      refine tab_cmp l hl5 K fun e z he K => ?_
      show HM gt1 Tryz.prog s (nB 6 f3.body) _ _ _
      refine HM.fgt gnm1 [] fun _ => ?_
      rw [he]
      conv => whnf
      refine kgo ?_; (repeat (first | intro (X:Nat) | intro (z:St) | intro (av:V) | intro (tk:Option Nat) | (intro (K1:Kn _ _ _); (try clear K); rename Kn _ _ _ => K))); conv => whnf
      refine ⟨_, _, pup0 known_pden _, ?_⟩
      conv => whnf
      refine kgo ?_; (repeat (first | intro (X:Nat) | intro (z:St) | intro (av:V) | intro (tk:Option Nat) | (intro (K1:Kn _ _ _); (try clear K); rename Kn _ _ _ => K))); conv => whnf
      exact K.fin hty hx (.b _) (.refl _)
    · refine kgo ?_; (repeat (first | intro (X:Nat) | intro (z:St) | intro (av:V) | intro (tk:Option Nat) | (intro (K1:Kn _ _ _); (try clear K); rename Kn _ _ _ => K))); conv => whnf
      refine ⟨_, _, pup0 known_pden _, ?_⟩
      conv => whnf
      refine kgo ?_; (repeat (first | intro (X:Nat) | intro (z:St) | intro (av:V) | intro (tk:Option Nat) | (intro (K1:Kn _ _ _); (try clear K); rename Kn _ _ _ => K))); conv => whnf
      exact K.fin hty hx (.b _) (.refl _)
  · refine kgo ?_; (repeat (first | intro (X:Nat) | intro (z:St) | intro (av:V) | intro (tk:Option Nat) | (intro (K1:Kn _ _ _); (try clear K); rename Kn _ _ _ => K))); conv => whnf
    refine ⟨_, _, pup0 known_pden _, ?_⟩
    conv => whnf
    refine kgo ?_; (repeat (first | intro (X:Nat) | intro (z:St) | intro (av:V) | intro (tk:Option Nat) | (intro (K1:Kn _ _ _); (try clear K); rename Kn _ _ _ => K))); conv => whnf
    exact K.fin hty hx (.b _) (.refl _)
end Go.Proofs.YthoojnjcdllgdaaGreatDoor
