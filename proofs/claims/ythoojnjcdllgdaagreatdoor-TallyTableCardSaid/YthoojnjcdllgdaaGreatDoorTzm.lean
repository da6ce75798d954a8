/-
  Both tables, walked whole. No statement stands here.
-/
import Derived.Test.YthoojnjcdllgdaaGreatDoorTzl
set_option linter.all false
namespace Go.Proofs.YthoojnjcdllgdaaGreatDoor
open Go Rf TallyP
set_option maxRecDepth 100000
set_option maxHeartbeats 4000000

def lines (h : List UInt8) (P : List RwP) (K : List RwK) (S : List Rw2) (F : List RwF) (o : Option Gp) : List (List UInt8) :=
  ((((([h] ++ P.map lnP) ++ K.map lnK) ++ S.map lnS) ++ F.map lnF) ++ bzL P) ++ slL o
theorem lines_nm {n : Nat → Prop} (l : List (List UInt8)) : Nm n (.tu [.pu 1 (l.map V.s) .u, .i .i64 0]) := by
  refine .tu _ fun c hc => ?_
  simp only [List.mem_cons, List.not_mem_nil, or_false] at hc
  rcases hc with rfl | rfl
  · refine .pu _ _ _ (fun v hv => ?_) (fun k h => by cases h)
    obtain ⟨x, -, rfl⟩ := List.mem_map.1 hv
    exact .s _
  · exact .i _ _
theorem busy_len (l : List RwP) : (bzL l).length ≤ 1 := by unfold bzL; cases busy l <;> simp
theorem tab6_den (ms : List Mv) (len : Int) (hl : 0 < len) (hl2 : len ≤ 4503599627370496) (hms : ms.length ≤ 1000) (hn : ∀ m ∈ ms, Nm s0.L m.v) (hw : ∀ m ∈ ms, m.wf) (ht : ∀ m ∈ ms, tmOk m) (t1 t2 t3 t4 t5 t6 t7 t8 : Int) (hv : (ofT ms).v = vT t1 t2 t3 t4 t5 t6 t7 t8) (hti : tiOk t1 t2 t3 t4 t5 t6) (s : St) (hx : NoX s) :
    Den gt1 Tryz.prog 6 [.pu 47 (ms.map Mv.v) .u, .i .i64 len] s (.tu [.pu 1 ((lines (headV t1 t2 t3 t4 t5 t6) (refP (evs ms)) (refK (evs ms)) (refR len (evs ms)) (refF (evs ms)) (silF (evs ms))).map V.s) .u, .i .i64 0]) s := by
  have hE : ∀ m ∈ evs ms, m.wf ∧ tmOk m := fun m hm => ⟨hw m ((List.mem_filter.1 hm).1), ht m ((List.mem_filter.1 hm).1)⟩
  have hP1 := okP (evs ms) hE
  have hK1 := okK (evs ms) hE
  have hS1 := okS len hl hl2 (evs ms) hE
  have hF1 := okF (evs ms) hE
  have hG1 := okG (evs ms) hE
  have hel := List.length_filter_le isEv ms
  have hP : (refP (evs ms)).length ≤ 1000 := by
    have h := ref_lenP (evs ms) (evs ms).length (Nat.le_refl _)
    rw [List.take_length] at h; unfold evs at h ⊢; omega
  have hK : (refK (evs ms)).length ≤ 1000 := by
    have h := ref_lenK (evs ms) (evs ms).length (Nat.le_refl _)
    rw [List.take_length] at h; unfold evs at h ⊢; omega
  have hF : (refF (evs ms)).length ≤ 1000 := by
    have h := ref_lenF (evs ms) (evs ms).length (Nat.le_refl _)
    rw [List.take_length] at h; unfold evs at h ⊢; omega
  have hS : (refR len (evs ms)).length ≤ 1000 := by
    have h := ref_len len (evs ms) (evs ms).length (Nat.le_refl _)
    rw [List.take_length] at h; unfold evs at h ⊢; omega
  have hB : ∀ x, busy (refP (evs ms)) = some x → i64 x.1 := fun x h => (hP1 x (busy_mem h)).1
  have hG6 : cF gt1 Tryz.prog (wfa 6) 6 = some f6 := by kernel_rfl
  refine Den.tidy fun hty => Den.hm gnm1 hG6 ?_
  have K := Kn.init hty.1 hx
  refine HM.fgt gnm1 [0, 1] fun _ => ?_
  refine tab6_hd ms len hl hl2 hms hn ht t1 t2 t3 t4 t5 t6 t7 t8 hv hti K fun e z av tk he K => ?_
  refine HM.fgt gnm1 [0, 6, 9] fun _ => ?_
  rw [he]
  show HM gt1 Tryz.prog s (.seq (sA (nB 5 f6.body)) (nB 6 f6.body)) _ _ _
  refine HM.seq ?_
  refine clP ms _ _ _ _ (refP (evs ms)) (by omega) (by simp only [List.length_append, List.length_map, List.length_cons, List.length_nil]; omega) hP1 hms hn hw rfl K fun e z av tk he K => ?_
  show HM gt1 Tryz.prog s (nB 6 f6.body) _ _ _
  refine HM.fgt gnm1 [0, 6, 9] fun _ => ?_
  rw [he]
  show HM gt1 Tryz.prog s (.seq (sA (nB 6 f6.body)) (nB 7 f6.body)) _ _ _
  refine HM.seq ?_
  refine clK ms _ _ _ _ (refK (evs ms)) (by omega) (by simp only [List.length_append, List.length_map, List.length_cons, List.length_nil]; omega) hK1 hms hn hw rfl K fun e z av tk he K => ?_
  show HM gt1 Tryz.prog s (nB 7 f6.body) _ _ _
  refine HM.fgt gnm1 [0, 6, 9] fun _ => ?_
  rw [he]
  show HM gt1 Tryz.prog s (.seq (sA (nB 7 f6.body)) (nB 8 f6.body)) _ _ _
  refine HM.seq ?_
  refine clS ms _ _ _ (refR len (evs ms)) (by omega) (by simp only [List.length_append, List.length_map, List.length_cons, List.length_nil]; omega) hS1 K fun e z av tk he K => ?_
  show HM gt1 Tryz.prog s (nB 8 f6.body) _ _ _
  refine HM.fgt gnm1 [0, 6, 9] fun _ => ?_
  rw [he]
  show HM gt1 Tryz.prog s (.seq (sA (nB 8 f6.body)) (nB 9 f6.body)) _ _ _
  refine HM.seq ?_
  refine clF ms _ _ _ _ (refF (evs ms)) (by omega) (by simp only [List.length_append, List.length_map, List.length_cons, List.length_nil]; omega) hF1 hms hn hw rfl K fun e z av tk he K => ?_
  show HM gt1 Tryz.prog s (nB 9 f6.body) _ _ _
  refine HM.fgt gnm1 [0, 6, 9] fun _ => ?_
  rw [he]
  show HM gt1 Tryz.prog s (.seq (sA (nB 9 f6.body)) (nB 10 f6.body)) _ _ _
  refine HM.seq ?_
  refine cbz ms _ _ _ _ (by simp only [List.length_append, List.length_map, List.length_cons, List.length_nil]; omega) hms hn hw (by omega) hB K fun e z av tk he K => ?_
  show HM gt1 Tryz.prog s (nB 10 f6.body) _ _ _
  refine HM.fgt gnm1 [0, 6, 9] fun _ => ?_
  rw [he]
  show HM gt1 Tryz.prog s (.seq (sA (nB 10 f6.body)) (nB 11 f6.body)) _ _ _
  refine HM.seq ?_
  refine csl ms _ _ _ _ (by have := busy_len (refP (evs ms)); simp only [List.length_append, List.length_map, List.length_cons, List.length_nil]; omega) hms hn hG1 K fun e z av tk he K => ?_
  show HM gt1 Tryz.prog s (nB 11 f6.body) _ _ _
  refine HM.fgt gnm1 [0, 6, 9] fun _ => ?_
  rw [he]
  conv => whnf
  unfold EC6
  refine kvw (t := 9) nthx ?_ K .here
  conv => whnf
  refine kgo ?_; (repeat (first | intro (X:Nat) | intro (z:St) | intro (av:V) | intro (tk:Option Nat) | (intro (K1:Kn _ _ _); (try clear K); rename Kn _ _ _ => K))); conv => whnf
  exact K.fin hty hx (lines_nm _) (.refl _)
theorem tab7_den (ms : List Mv) (len : Int) (hl : 0 < len) (hl2 : len ≤ 4503599627370496) (hms : ms.length ≤ 1000) (hn : ∀ m ∈ ms, Nm s0.L m.v) (hw : ∀ m ∈ ms, m.wf) (ht : ∀ m ∈ ms, tmOk m) (t1 t2 t3 t4 t5 t6 t7 t8 : Int) (hv : (ofT ms).v = vT t1 t2 t3 t4 t5 t6 t7 t8) (hti : tiOk t1 t2 t3 t4 t5 t6) (s : St) (hx : NoX s) :
    Den gt1 Tryz.prog 7 [.pu 47 (ms.map Mv.v) .u, .i .i64 len] s (.tu [.pu 1 ((lines (headV t1 t2 t3 t4 t5 t6) (refP (evs ms)) (refK (evs ms)) (refR len (evs ms)) (refF (evs ms)) (silF (evs ms))).map V.s) .u, .i .i64 0]) s := by
  have hE : ∀ m ∈ evs ms, m.wf ∧ tmOk m := fun m hm => ⟨hw m ((List.mem_filter.1 hm).1), ht m ((List.mem_filter.1 hm).1)⟩
  have hP1 := okP (evs ms) hE
  have hK1 := okK (evs ms) hE
  have hS1 := okS len hl hl2 (evs ms) hE
  have hF1 := okF (evs ms) hE
  have hG1 := okG (evs ms) hE
  have hel := List.length_filter_le isEv ms
  have hP : (refP (evs ms)).length ≤ 1000 := by
    have h := ref_lenP (evs ms) (evs ms).length (Nat.le_refl _)
    rw [List.take_length] at h; unfold evs at h ⊢; omega
  have hK : (refK (evs ms)).length ≤ 1000 := by
    have h := ref_lenK (evs ms) (evs ms).length (Nat.le_refl _)
    rw [List.take_length] at h; unfold evs at h ⊢; omega
  have hF : (refF (evs ms)).length ≤ 1000 := by
    have h := ref_lenF (evs ms) (evs ms).length (Nat.le_refl _)
    rw [List.take_length] at h; unfold evs at h ⊢; omega
  have hS : (refR len (evs ms)).length ≤ 1000 := by
    have h := ref_len len (evs ms) (evs ms).length (Nat.le_refl _)
    rw [List.take_length] at h; unfold evs at h ⊢; omega
  have hB : ∀ x, busy (refP (evs ms)) = some x → i64 x.1 := fun x h => (hP1 x (busy_mem h)).1
  rw [← sil_same] at hG1 ⊢
  have hG7 : cF gt1 Tryz.prog (wfa 7) 7 = some f7 := by kernel_rfl
  have hb : f7.body = .seq (sA (nB 0 f7.body)) (.seq (sA (nB 1 f7.body)) (.seq (sA (nB 2 f7.body)) (.seq (sA (nB 3 f7.body)) (.seq (sA (nB 4 f7.body)) (.seq (sA (nB 5 f7.body)) (.seq (sA (nB 6 f7.body)) (nB 7 f7.body))))))) := rfl
  refine Den.tidy fun hty => Den.hm gnm1 hG7 ?_
  have K := Kn.init hty.1 hx
  refine HM.fgt gnm1 [0, 1] fun _ => ?_
  show HM gt1 Tryz.prog s f7.body (.pu 47 (ms.map Mv.v) .u :: .i .i64 len :: List.replicate 225 .bad) s _
  rw [hb]
  generalize hR : nB 7 f7.body = R
  conv => whnf
  refine kgo ?_; (repeat (first | intro (X:Nat) | intro (z:St) | intro (av:V) | intro (tk:Option Nat) | (intro (K1:Kn _ _ _); (try clear K); rename Kn _ _ _ => K))); conv => whnf
  refine ⟨_, _, up0 (f9_den ms len hms hn hl hl2 (fun m hm => ht m ((List.mem_filter.1 hm).1)) _ K.x), ?_⟩
  conv => whnf
  refine kgo ?_; (repeat (first | intro (X:Nat) | intro (z:St) | intro (av:V) | intro (tk:Option Nat) | (intro (K1:Kn _ _ _); (try clear K); rename Kn _ _ _ => K))); conv => whnf
  have d1 := rof_den ms hms hn _ K.x
  rw [hv] at d1
  refine ⟨_, _, up0 d1, ?_⟩
  conv => whnf
  refine kgo ?_; (repeat (first | intro (X:Nat) | intro (z:St) | intro (av:V) | intro (tk:Option Nat) | (intro (K1:Kn _ _ _); (try clear K); rename Kn _ _ _ => K))); conv => whnf
  refine kbsl6s ?_
  conv => whnf
  have hE := K.get (w := true) .here
  refine kgo ?_; (repeat (first | intro (X:Nat) | intro (z:St) | intro (av:V) | intro (tk:Option Nat) | (intro (K1:Kn _ _ _); (try clear K); rename Kn _ _ _ => K))); conv => whnf
  refine kbsl6 ?_
  conv => whnf
  refine kgo ?_; (repeat (first | intro (X:Nat) | intro (z:St) | intro (av:V) | intro (tk:Option Nat) | (intro (K1:Kn _ _ _); (try clear K); rename Kn _ _ _ => K))); conv => whnf
  subst hR
  replace K := K.drop0 rfl
  refine HM.fgt gnm1 [0, 6, 9, 10, 11] fun _ => ?_
  show HM gt1 Tryz.prog s (.seq (sA (nB 7 f7.body)) (nB 8 f7.body)) _ _ _
  refine HM.seq ?_
  refine rhd _ _ t1 t2 t3 t4 t5 t6 hti K fun e z he K => ?_
  show HM gt1 Tryz.prog s (nB 8 f7.body) _ _ _
  refine HM.fgt gnm1 [0, 6, 11] fun _ => ?_
  rw [he]
  have hb : nB 8 f7.body = .seq (sA (nB 8 f7.body)) (.seq (sA (nB 9 f7.body)) (nB 10 f7.body)) := rfl
  rw [hb]
  generalize hR : nB 10 f7.body = R
  conv => whnf
  refine kgo ?_; (repeat (first | intro (X:Nat) | intro (z:St) | intro (av:V) | intro (tk:Option Nat) | (intro (K1:Kn _ _ _); (try clear K); rename Kn _ _ _ => K))); conv => whnf
  refine ⟨_, _, up0 (refP_den ms hms hn _ K.x), ?_⟩
  conv => whnf
  refine kgo ?_; (repeat (first | intro (X:Nat) | intro (z:St) | intro (av:V) | intro (tk:Option Nat) | (intro (K1:Kn _ _ _); (try clear K); rename Kn _ _ _ => K))); conv => whnf
  subst hR
  replace K := K.accx 1 [.s (headV t1 t2 t3 t4 t5 t6)]
  refine HM.fgt gnm1 [0, 6, 13, 14] fun _ => ?_
  show HM gt1 Tryz.prog s (.seq (sA (nB 10 f7.body)) (nB 11 f7.body)) _ _ _
  refine HM.seq ?_
  refine rlP ms _ _ _ [headV t1 t2 t3 t4 t5 t6] (refP (evs ms)) (by omega) (by simp only [List.length_append, List.length_map, List.length_cons, List.length_nil]; omega) hP1 K fun e z av tk he K => ?_
  show HM gt1 Tryz.prog s (nB 11 f7.body) _ _ _
  refine HM.fgt gnm1 [0, 6, 13] fun _ => ?_
  rw [he]
  have hb : nB 11 f7.body = .seq (sA (nB 11 f7.body)) (nB 12 f7.body) := rfl
  rw [hb]
  generalize hR : nB 12 f7.body = R
  conv => whnf
  refine kgo ?_; (repeat (first | intro (X:Nat) | intro (z:St) | intro (av:V) | intro (tk:Option Nat) | (intro (K1:Kn _ _ _); (try clear K); rename Kn _ _ _ => K))); conv => whnf
  refine ⟨_, _, up0 (refK_den ms hms hn _ K.x), ?_⟩
  conv => whnf
  refine kgo ?_; (repeat (first | intro (X:Nat) | intro (z:St) | intro (av:V) | intro (tk:Option Nat) | (intro (K1:Kn _ _ _); (try clear K); rename Kn _ _ _ => K))); conv => whnf
  subst hR
  refine HM.fgt gnm1 [0, 6, 13, 16] fun _ => ?_
  show HM gt1 Tryz.prog s (.seq (sA (nB 12 f7.body)) (nB 13 f7.body)) _ _ _
  refine HM.seq ?_
  refine rlK ms _ _ _ _ (refK (evs ms)) (by omega) (by simp only [List.length_append, List.length_map, List.length_cons, List.length_nil]; omega) hK1 K fun e z av tk he K => ?_
  show HM gt1 Tryz.prog s (nB 13 f7.body) _ _ _
  refine HM.fgt gnm1 [0, 6, 13] fun _ => ?_
  rw [he]
  show HM gt1 Tryz.prog s (.seq (sA (nB 13 f7.body)) (nB 14 f7.body)) _ _ _
  refine HM.seq ?_
  refine rlS ms _ _ _ (refR len (evs ms)) (by omega) (by simp only [List.length_append, List.length_map, List.length_cons, List.length_nil]; omega) hS1 K fun e z av tk he K => ?_
  show HM gt1 Tryz.prog s (nB 14 f7.body) _ _ _
  refine HM.fgt gnm1 [0, 6, 13] fun _ => ?_
  rw [he]
  have hb : nB 14 f7.body = .seq (sA (nB 14 f7.body)) (nB 15 f7.body) := rfl
  rw [hb]
  generalize hR : nB 15 f7.body = R
  conv => whnf
  refine kgo ?_; (repeat (first | intro (X:Nat) | intro (z:St) | intro (av:V) | intro (tk:Option Nat) | (intro (K1:Kn _ _ _); (try clear K); rename Kn _ _ _ => K))); conv => whnf
  refine ⟨_, _, up0 (refF_den ms hms hn _ K.x), ?_⟩
  conv => whnf
  refine kgo ?_; (repeat (first | intro (X:Nat) | intro (z:St) | intro (av:V) | intro (tk:Option Nat) | (intro (K1:Kn _ _ _); (try clear K); rename Kn _ _ _ => K))); conv => whnf
  subst hR
  refine HM.fgt gnm1 [0, 6, 13, 19] fun _ => ?_
  show HM gt1 Tryz.prog s (.seq (sA (nB 15 f7.body)) (nB 16 f7.body)) _ _ _
  refine HM.seq ?_
  refine rlF ms _ _ _ _ (refF (evs ms)) (by omega) (by simp only [List.length_append, List.length_map, List.length_cons, List.length_nil]; omega) hF1 K fun e z av tk he K => ?_
  show HM gt1 Tryz.prog s (nB 16 f7.body) _ _ _
  refine HM.fgt gnm1 [0, 6, 13] fun _ => ?_
  rw [he]
  show HM gt1 Tryz.prog s (.seq (sA (nB 16 f7.body)) (nB 17 f7.body)) _ _ _
  refine HM.seq ?_
  refine rbz ms _ _ _ _ (by simp only [List.length_append, List.length_map, List.length_cons, List.length_nil]; omega) hms hn (by omega) hB K fun e z av tk he K => ?_
  show HM gt1 Tryz.prog s (nB 17 f7.body) _ _ _
  refine HM.fgt gnm1 [0, 6, 13] fun _ => ?_
  rw [he]
  show HM gt1 Tryz.prog s (.seq (sA (nB 17 f7.body)) (nB 18 f7.body)) _ _ _
  refine HM.seq ?_
  refine rsl ms _ _ _ _ (by have := busy_len (refP (evs ms)); simp only [List.length_append, List.length_map, List.length_cons, List.length_nil]; omega) hms hn (by omega) hG1 K fun e z av tk he K => ?_
  show HM gt1 Tryz.prog s (nB 18 f7.body) _ _ _
  refine HM.fgt gnm1 [0, 6, 13] fun _ => ?_
  rw [he]
  conv => whnf
  unfold ER7
  refine kvw (t := 13) nthx ?_ K .here
  conv => whnf
  refine kgo ?_; (repeat (first | intro (X:Nat) | intro (z:St) | intro (av:V) | intro (tk:Option Nat) | (intro (K1:Kn _ _ _); (try clear K); rename Kn _ _ _ => K))); conv => whnf
  exact K.fin hty hx (lines_nm _) (.refl _)
end Go.Proofs.YthoojnjcdllgdaaGreatDoor
