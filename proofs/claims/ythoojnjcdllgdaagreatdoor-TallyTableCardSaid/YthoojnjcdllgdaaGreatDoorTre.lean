import Derived.Test.YthoojnjcdllgdaaGreatDoorTgb
import Derived.Test.YthoojnjcdllgdaaGreatDoorTsq
import Derived.Test.YthoojnjcdllgdaaGreatDoorCodeS
import Derived.Test.YthoojnjcdllgdaaGreatDoorTsp
/-
  Contracts: keys of events, maps' keys sorted (numbers). No statement stands here.
-/
set_option linter.all false
namespace Go.Proofs.YthoojnjcdllgdaaGreatDoor
open Go Rf TallyP Go.RowKit Go.Maps Go.Sort Go.Shelf Go.Proofs
set_option maxRecDepth 100000
set_option maxHeartbeats 4000000

theorem nox0 : NoX s0 := fun l o h => by simp [s0_get] at h
theorem c31_den (m : Mv) (hn : Nm s0.L m.v) : PDen gt0 Tryz.prog 32 [.ag m.e] (iE m.to) := by
  refine PDen.hc gnm0 hF32 (fun x hx => by simp at hx; subst hx; exact mv_e hn) (.i _ _) ?_
  conv => whnf
  refine sgo ?_
  rfl
theorem c35_den (m : Mv) (hn : Nm s0.L m.v) : PDen gt0 Tryz.prog 36 [.ag m.e] (pE (m.to, m.kd)) := by
  have h : Den gt0 Tryz.prog 36 [.ag m.e] s0 (pE (m.to, m.kd)) s0 := by
    refine Den.tidy fun hty => Den.hm gnm0 hF36 ?_
    have K := Kn.init hty.1 nox0
    conv => whnf
    refine kgo ?_; (repeat (first | intro (X:Nat) | intro (z:St) | intro (av:V) | intro (tk:Option Nat) | (intro (K1:Kn _ _ _); (try clear K); rename Kn _ _ _ => K))); conv => whnf
    exact K.ret [pE (m.to, m.kd)] hty nox0 (pE_nm _ _) (.refl _)
  exact Den.pure gnm0 (fun x hx => by simp at hx; subst hx; exact mv_e hn) (pE_nm _ _) h
theorem c39_den (m : Mv) (hn : Nm s0.L m.v) : PDen gt0 Tryz.prog 40 [.ag m.e] (pE (m.og, m.to)) := by
  have h : Den gt0 Tryz.prog 40 [.ag m.e] s0 (pE (m.og, m.to)) s0 := by
    refine Den.tidy fun hty => Den.hm gnm0 hF40 ?_
    have K := Kn.init hty.1 nox0
    conv => whnf
    refine kgo ?_; (repeat (first | intro (X:Nat) | intro (z:St) | intro (av:V) | intro (tk:Option Nat) | (intro (K1:Kn _ _ _); (try clear K); rename Kn _ _ _ => K))); conv => whnf
    exact K.ret [pE (m.og, m.to)] hty nox0 (pE_nm _ _) (.refl _)
  exact Den.pure gnm0 (fun x hx => by simp at hx; subst hx; exact mv_e hn) (pE_nm _ _) h
theorem sortsB (m : Nat) : AnyZI.SortsIn Tryz.prog Tryz.sortedB_ren Fence.wide m :=
  ⟨fun blk off cap ss W hH hblk hsz => callsIn_wide.2 (AnyM.slices_Sort_int Tryz.sortB blk off cap ss W hH hblk hsz),
   fun p cap W => callsIn_wide.2 (AnyM.slices_Sort_int_none Tryz.sortB p cap W)⟩
theorem hcB (w : World) (Bm b nn : Nat) (D0 : DataW Unit) (hBm : Bm < w.heap.size) (hm : w.cell? ⟨Bm, 0, none⟩ = some (.map (some b))) (hown : w.ownsMap Tryz.prog 3 rT b nn D0) (hmax : Maps.size D0 ≤ maxLen) (hbytes : Maps.size D0 * 8 ≤ 140737488355328) :
    Calls Tryz.prog 33 #[.func (.func 53) #[] #[.pointer (some ⟨Bm, 0, none⟩)]] w fun e w' => ∃ (v : Value) (ss : List Int), e = .returned v ∧ ss.Perm (intKeys D0) ∧ w'.ownsRow w.heap.size 3 1 v ss.length ((ss.mergeSort fun x y => decide (x ≤ y)).map encZ) ∧ Below w.heap.size w w' := by
  refine (callsIn_wide (n := 5)).1 ?_
  have hseq : SeqGives Fence.wide 2 Tryz.prog 53 #[.pointer (some ⟨Bm, 0, none⟩)] encZ (fun ss => ss.Perm (intKeys D0)) (Maps.size D0) w :=
    AnyZI.keys_gives (ρ := Tryz.keysB_ren) { Tryz.keysB with } Fence.wide _ trivial rfl (by omega) Bm b nn D0 w hBm hm hown
  have cS := AnyZI.sorted_in Tryz.sortedB Fence.wide 5 trivial trivial trivial trivial rfl (by omega) (sortsB _) (enters_of Tryz.func52 (by kernel_rfl) rfl) 53 #[.pointer (some ⟨Bm, 0, none⟩)] trivial (enters_of Tryz.func53 (by kernel_rfl) rfl) _ _ hmax hbytes _ hseq
  change CallsIn _ _ Tryz.prog 33 _ _ _ at cS
  exact cS.mono fun e w' ⟨v, ss, h1, h2, h3, _, h5⟩ => ⟨v, ss, h1, h2, h3, h5⟩
theorem sorted32_den {sE : (Int × Int × Int × Int) → V} {s : St} {B M clk zf ty : Nat} {l : List (Int × (Int × Int × Int × Int))} (hB : s.get B = some (.c [.m M] zf (some ty))) (hM : s.get M = some (.x (.mp (mEs (fun k => .i .i64 k) sE l 0) clk))) (hc : clk = l.length)
    (hk : ∀ k ∈ keysL l, (Lit.int .i64 k).wf = true) (hd : (keysL l).Nodup) (hn : l.length ≤ 1000000) :
    Den gt0 Tryz.prog 33 [.fn 53 [.p B 0]] s (.pu 1 (((keysL l).mergeSort fun x y => decide (x ≤ y)).map fun k => .i .i64 k) .u) s :=
  sortedI_den (T := 3) (T' := 3) (by kernel_rfl) hcB hB hM hc hk hd hn
theorem keys33_den {s : St} {M : Nat} : Den gt0 Tryz.prog 34 [.m M] s (.fn 53 [.p s.n 0]) (s.new (.c [.m M] 0 (some 98))) := by
  refine Den.hm gnm0 hF34 ?_
  conv => whnf
  refine sgh ?_
  refine HO.k ?_
  conv => whnf
  refine sgh ?_
  exact ⟨.refl _, fun hg => ⟨WkS.refl hg, .inl rfl⟩⟩
theorem keys37_den {s : St} {M : Nat} : Den gt0 Tryz.prog 38 [.m M] s (.fn 56 [.p s.n 0]) (s.new (.c [.m M] 0 (some 106))) := by
  refine Den.hm gnm0 hF38 ?_
  conv => whnf
  refine sgh ?_
  refine HO.k ?_
  conv => whnf
  refine sgh ?_
  exact ⟨.refl _, fun hg => ⟨WkS.refl hg, .inl rfl⟩⟩
end Go.Proofs.YthoojnjcdllgdaaGreatDoor
/-
  Contracts: the document's events and windows. No statement stands here.
-/
set_option linter.all false
namespace Go.Proofs.YthoojnjcdllgdaaGreatDoor
open Go Rf TallyP
set_option maxRecDepth 100000
set_option maxHeartbeats 4000000

theorem from_tmod {t len : Int} (hl : 0 < len) : (if t.tmod len < 0 then t.tmod len + len else t.tmod len) = t % len := by
  have h1 := Int.tdiv_mul_add_tmod t len
  have h2 := Int.tmod_lt_of_pos t hl
  have h3 := Int.lt_tmod_of_pos t hl
  split
  · rw [show t % len = (t.tmod len + len + len * (t.tdiv len - 1)) % len by rw [Int.mul_sub, Int.mul_comm]; congr 1; omega, Int.add_mul_emod_self_left, Int.emod_eq_of_lt (by omega) (by omega)]
  · rw [show t % len = (t.tmod len + len * t.tdiv len) % len by rw [Int.mul_comm, Int.add_comm, h1], Int.add_mul_emod_self_left, Int.emod_eq_of_lt (by omega) h2]
theorem from28_den {t len : Int} (hl : 0 < len) (hl2 : len ≤ 4503599627370496) (h1 : -1152921504606846976 ≤ t) (h2 : t ≤ 1152921504606846976) : PDen gt0 Tryz.prog 45 [.i .i64 t, .i .i64 len] (.i .i64 (fromW len t)) := by
  refine PDen.hc gnm0 hF45 (fun x hx => by
    simp at hx
    rcases hx with rfl | rfl <;> exact .i _ _) (.i _ _) ?_
  conv => whnf
  refine sgo ?_
  refine ⟨_, bv_rem hl, ?_⟩
  conv => whnf
  refine sgo ?_
  have e := from_tmod (t := t) hl
  have b0 := Int.emod_nonneg t (show len ≠ 0 by omega)
  have b1 := Int.emod_lt_of_pos t hl
  cases hr : ltZ (t.tmod len) 0 <;> conv => whnf
  · rw [ltZ_eq] at hr
    simp only [decide_eq_false_iff_not] at hr
    rw [if_neg hr] at e
    refine sgo ?_
    rw [e, wIn (by omega) (by omega)]
    rfl
  · rw [ltZ_eq] at hr
    simp only [decide_eq_true_eq] at hr
    rw [if_pos hr] at e
    refine sgo ?_
    rw [wIn (n := t.tmod len + len) (by omega) (by omega), e, wIn (by omega) (by omega)]
    rfl
def Mv.o (m : Mv) : V := .ag [.i .i64 m.ok, .i .i64 m.t, .i .i64 m.og, m.d 40, .i .i64 m.to, .i .i64 m.kd, m.d 43, .pu 6 m.rl .u, m.d 45]
def evs (ms : List Mv) : List Mv := ms.filter isEv
theorem evs_nm {ms : List Mv} {n : Nat → Prop} (hn : ∀ m ∈ ms, Nm s0.L m.v) : Nm n (.pu 9 ((evs ms).map Mv.o) .u) := by
  refine .pu _ _ _ (fun v hv => ?_) (fun k hk => by cases hk)
  obtain ⟨m, hm, rfl⟩ := List.mem_map.1 hv
  have h := mv_cell (hn m (List.mem_filter.1 hm).1)
  have e : ∀ {c : V}, Nm s0.L c → Nm n c := fun h => h.mono fun _ h => (Nat.not_lt_zero _ h.1).elim
  refine .ag _ fun c hc => e (h c ?_)
  simp only [List.mem_cons, List.not_mem_nil, or_false] at hc
  rcases hc with rfl | rfl | rfl | rfl | rfl | rfl | rfl | rfl | rfl <;> simp [Mv.c]
def EV (ms : List Mv) (av : V) (i : Nat) : List V := (.pu 47 (ms.map Mv.v) .u :: .bad :: .bad :: av :: .i .i64 (i : Nat) :: List.replicate 30 .bad)
theorem events_den (ms : List Mv) (hms : ms.length ≤ 1000) (hn : ∀ m ∈ ms, Nm s0.L m.v) (s : St) (hx : NoX s) : Den gt0 Tryz.prog 44 [.pu 47 (ms.map Mv.v) .u] s (.pu 9 ((evs ms).map Mv.o) .u) s := by
  have hll : (ms.map Mv.v).length = ms.length := List.length_map ..
  refine Den.tidy fun hty => Den.hm gnm0 hF44 ?_
  have K := Kn.init hty.1 hx
  conv => whnf
  refine kgo ?_; (repeat (first | intro (X:Nat) | intro (z:St) | intro (av:V) | intro (tk:Option Nat) | (intro (K1:Kn _ _ _); (try clear K); rename Kn _ _ _ => K))); conv => whnf
  refine HM.loop gnm0 fun hg => ⟨fun n e z => ∃ (i : Nat) (av : V) (tk : Option Nat), i ≤ ms.length ∧ n = ms.length - i ∧ e = EV ms av i ∧ Kn s z [.ac 9 av ((evs (ms.take i)).map Mv.o) tk],
    ⟨ms.length, fg [0, 3, 4] _, _, WkM.fg hg, 0, .ns, none, Nat.zero_le _, rfl, rfl, K.acc0 9⟩, ?_⟩
  clear K
  rintro n e z1 ⟨i, av, tk, hi, rfl, rfl, K⟩
  conv => whnf
  refine kgo ?_; (repeat (first | intro (X:Nat) | intro (z:St) | intro (av:V) | intro (tk:Option Nat) | (intro (K1:Kn _ _ _); (try clear K); rename Kn _ _ _ => K))); conv => whnf
  rw [hll]
  refine brL ⟨fun hlt => ?_, fun hge => ?_⟩ <;> conv => whnf
  · have hmi : ms[i]? = some ms[i] := List.getElem?_eq_getElem hlt
    have hst : evs (ms.take (i + 1)) = evs (ms.take i) ++ (if isEv ms[i] then [ms[i]] else []) := by
      unfold evs
      rw [List.take_add_one, hmi, List.filter_append]
      cases h : isEv ms[i] <;> simp [h]
    have htl : (evs (ms.take i)).length ≤ 1000 := by
      have := List.length_filter_le isEv (ms.take i)
      rw [List.length_take] at this
      unfold evs; omega
    generalize ms[i] = m at hmi hst
    refine kgo ?_; (repeat (first | intro (X:Nat) | intro (z:St) | intro (av:V) | intro (tk:Option Nat) | (intro (K1:Kn _ _ _); (try clear K); rename Kn _ _ _ => K))); conv => whnf
    cases h1 : eqZ m.k 2 <;> conv => whnf
    · have hev : isEv m = false := by simp [isEv, h1]
      rw [hev] at hst
      refine kgo ?_; (repeat (first | intro (X:Nat) | intro (z:St) | intro (av:V) | intro (tk:Option Nat) | (intro (K1:Kn _ _ _); (try clear K); rename Kn _ _ _ => K))); conv => whnf
      intro hg'
      exact ⟨ms.length - (i + 1), fg [0, 3, 4] _, _, by omega, WkM.fg hg', i + 1, av, tk, hlt, rfl, rfl, K.cast (by rw [hst]; simp)⟩
    · refine kgo ?_; (repeat (first | intro (X:Nat) | intro (z:St) | intro (av:V) | intro (tk:Option Nat) | (intro (K1:Kn _ _ _); (try clear K); rename Kn _ _ _ => K))); conv => whnf
      cases h2 : eqZ m.ok 1 <;> conv => whnf
      · have hev : isEv m = false := by simp [isEv, h1, h2]
        rw [hev] at hst
        refine kgo ?_; (repeat (first | intro (X:Nat) | intro (z:St) | intro (av:V) | intro (tk:Option Nat) | (intro (K1:Kn _ _ _); (try clear K); rename Kn _ _ _ => K))); conv => whnf
        intro hg'
        exact ⟨ms.length - (i + 1), fg [0, 3, 4] _, _, by omega, WkM.fg hg', i + 1, av, tk, hlt, rfl, rfl, K.cast (by rw [hst]; simp)⟩
      · have hev : isEv m = true := by simp [isEv, h1, h2]
        rw [hev] at hst
        refine kgo ?_; (repeat (first | intro (X:Nat) | intro (z:St) | intro (av:V) | intro (tk:Option Nat) | (intro (K1:Kn _ _ _); (try clear K); rename Kn _ _ _ => K))); conv => whnf
        intro hg'
        exact ⟨ms.length - (i + 1), fg [0, 3, 4] _, _, by omega, WkM.fg hg', i + 1, av, tk, hlt, rfl, rfl, K.cast (by rw [hst, List.map_append]; rfl)⟩
  · rw [List.take_of_length_le hge] at K
    refine kgx ?_; (repeat (first | intro (X:Nat) | intro (z:St) | intro (av:V) | intro (tk:Option Nat) | (intro (K1:Kn _ _ _); (try clear K); rename Kn _ _ _ => K))); conv => whnf
    refine kvw (t := 3) nthx ?_ K .here
    conv => whnf
    refine kgo ?_; (repeat (first | intro (X:Nat) | intro (z:St) | intro (av:V) | intro (tk:Option Nat) | (intro (K1:Kn _ _ _); (try clear K); rename Kn _ _ _ => K))); conv => whnf
    exact K.fin hty hx (evs_nm hn) (.refl _)
end Go.Proofs.YthoojnjcdllgdaaGreatDoor
