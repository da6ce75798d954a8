/-
  Contracts: bytes read by the other road, whole. No statement stands here.
-/
import Derived.Test.YtlhopiehnaabgaaDoorLE
import Derived.Test.YtlhopiehnaabgaaDoorROf
import Derived.Test.YtlhopiehnaabgaaDoorOfB
set_option linter.all false
namespace Go.Proofs.YtlhopiehnaabgaaDoor
open Go Rf
set_option maxRecDepth 100000
set_option maxHeartbeats 4000000

def rofV : Option (Int × List Kd × Nat) → V
  | some (v, ks, a) => .tu [pgV v ks, .i .i64 (a : Nat), .b true]
  | none => .tu [.ag [.i .i64 0, .ns], .i .i64 0, .b false]
theorem rofV_nm {L : Nat → Prop} (x : Option (Int × List Kd × Nat)) : Nm L (rofV x) := by
  cases x with
  | none => exact .tu _ (nm3 (.ag _ (nm2 (.i _ _) .ns)) (.i _ _) (.b _))
  | some x => exact .tu _ (nm3 (pgV_nm _ _) (.i _ _) (.b _))
theorem fin16 {s s' : St} {e : List V} {R : Nat} {v : Int} {w : V} {a : Int} {b : Bool} {x : V} (ht : Tidy s) (hx : NoX s) (hB : .tu [.ag [.i .i64 v, w], .i .i64 a, .b b] = x) (hn : ∀ L, Nm L x) (h2 : Nth e 2 (.p R 0)) (h3 : Nth e 3 (.i .i64 a)) (h4 : Nth e 4 (.b b)) (hR : s'.get R = some (.c [.i .i64 v, w] 0 (some 38))) (hG : Grow s s') : finM s f70.res x s .ret e s' := by
  subst hB
  refine finM_ret (vs := [.ag [.i .i64 v, w], .i .i64 a, .b b]) (.inl rfl) ?_ (.refl _) (fun _ => ⟨hG.end ht hx, .inr (hn _)⟩)
  show resV e s' [.cn 2 2, .t 3, .t 4] = _
  have h1 : aop e s' (.loadn 2 (.t 2)) = some (.ag [.i .i64 v, w], s') := krun_load_all (gt := gt0) (P := Tryd.prog) (a := .t 2) h2.get hR rfl
  have e3 := h3.get
  have e4 := h4.get
  simp only [resV, h1, Option.map, e3, e4]
theorem fin16_bad {s s' : St} {e : List V} {R : Nat} {x : V} (ht : Tidy s) (hx : NoX s) (hB : rofV none = x) (h2 : Nth e 2 (.p R 0)) (h3 : Nth e 3 (.i .i64 0)) (h4 : Nth e 4 (.b false)) (hR : s'.get R = some zR) (hG : Grow s s') : finM s f70.res x s .ret e s' :=
  fin16 ht hx hB (fun L => by subst hB; exact rofV_nm _) h2 h3 h4 hR hG
theorem QI.set {s z : St} {R N : Nat} {v : Int} {pkv : V} {ks : List Kd} {tk : Option Nat} (h : QI s z R N v pkv ks tk) (v' : Int) : QI s (z.put N (some (.c [.i .i64 v', pkv] 0 (some 38)))) R N v' pkv ks tk :=
  ⟨h.w.put h.hN _, by rw [St.get_put_ne _ _ _ _ h.ne]; exact h.r, St.get_put_same _ _ _, h.a.putc h.n _, h.g.put h.n, h.hR, h.hN, h.ne, h.tn⟩

theorem rof_den (bs : List UInt8) (hb : bs.length ≤ 5000) (s : St) (hx : NoX s) : Den gt0 Tryd.prog 70 [bsV bs] s (rofV (ofB bs)) s := by
  have hm : 10000 ≤ maxLen := by decide
  have hlb : (bs.map bV).length = bs.length := List.length_map ..
  generalize hB : rofV (ofB bs) = B
  refine Den.tidy fun ht => Den.hm gnm0 hF70 ?_
  have hbadB : progP bs = none → rofV none = B := fun h => by rw [← hB, ofB, h]
  have hg := ht.1
  conv => whnf
  refine sghx ?_
  refine HM.ops ?_
  conv => whnf
  refine HO.opA krun_alloc ?_
  conv => whnf
  refine sghx ?_
  refine HM.ops ?_
  conv => whnf
  refine HO.opA krun_alloc ?_
  have hz : QI s ((s.new zR).new zR) s.n (s.new zR).n 0 .ns [] none :=
    ⟨((Grow.refl s).new _).new _, by rw [St.get_new_ne _ _ _ (Nat.ne_of_lt (Nat.lt_succ_self _))]; exact St.get_new_same _ _, St.get_new_same _ _, ⟨rfl, rfl⟩, hg.new.new, Nat.le_refl _, Nat.le_succ _, Nat.ne_of_lt (Nat.lt_succ_self _), fun k hk => by cases hk⟩
  generalize (s.new zR).new zR = z at *
  generalize (s.new zR).n = N at *
  generalize s.n = R at hz ⊢
  conv => whnf
  refine sghx ?_
  refine HM.ops ?_
  conv => whnf
  refine sghx ?_
  rw [hlb]
  refine brB_iff.2 ⟨fun h1 => ?_, fun h1 => ?_⟩ <;> conv => whnf
  · have h1' : bs.length < 2 := by rw [ltZ_eq] at h1; simp only [decide_eq_true_eq] at h1; omega
    have hbad : progP bs = none := by
      have : bs[1]? = none := by rw [List.getElem?_eq_none_iff]; omega
      unfold progP; rw [this]; cases bs[0]? <;> rfl
    have hN := hz.n
    have hR := hz.r
    have hG := hz.w
    have hRs := hz.hR
    refine sgh ?_
    refine HO.opA (krun_store (n := 2) (l := R) (o := 0) (v := .ag [.i .i64 0, .ns]) (cs' := [.i .i64 0, .ns]) (by rfl) (by rfl) hR rfl rfl (Nat.zero_le _) (by simp) rfl) ?_
    have hR9 : (z.put R (some zR)).get R = some zR := St.get_put_same _ _ _
    have hG9 := hG.put hRs (some zR)
    generalize St.put z R _ = z9 at *
    conv => whnf
    refine sgh ?_
    exact fin16_bad ht hx (hbadB hbad) nthx nthx nthx hR9 hG9
  · have h1' : 2 ≤ bs.length := by rw [ltZ_eq] at h1; simp only [decide_eq_false_iff_not] at h1; omega
    have h0 : bs[0]? = some bs[0] := List.getElem?_eq_getElem (by omega)
    have h11 : bs[1]? = some bs[1] := List.getElem?_eq_getElem (by omega)
    generalize bs[0] = v0 at h0
    generalize bs[1] = n0 at h11
    have hm0 : (bs.map bV)[(0 : Int).toNat]? = some (bV v0) := bs_get h0
    have hm1 : (bs.map bV)[(1 : Int).toNat]? = some (bV n0) := bs_get h11
    have hn0 := n0.toNat_lt
    refine sghx ?_
    refine HM.ops ?_
    conv => whnf
    refine sghx ?_
    refine ⟨rfl, by decide, _, hm0, ?_⟩
    conv => whnf
    refine sghx ?_
    rw [show wrapF .i64 ((v0.toNat : Nat) : Int) = ((v0.toNat : Nat) : Int) from wrapU8 v0]
    conv => whnf
    refine sghx ?_
    refine HO.opA (krun_store (n := 1) (l := N) (o := 0 + 0) (v := .i .i64 (v0.toNat : Nat)) (cs' := [.i .i64 (v0.toNat : Nat), .ns]) (by rfl) (by rfl) hz.n rfl rfl (Nat.zero_le _) (by simp) rfl) ?_
    have hz3 := hz.set ((v0.toNat : Nat) : Int)
    generalize z.put N _ = z3 at *
    conv => whnf
    refine sgh ?_
    refine HM.loop gnm0 fun hg => ⟨fun n e s' => ∃ (i : Nat) (ks : List Kd) (a : Nat) (pkv : V) (tk : Option Nat), i ≤ n0.toNat ∧ n = n0.toNat - i ∧ ksI bs i = some (ks, a) ∧ e = EG0 bs R N a i ∧ QI s s' R N ((v0.toNat : Nat) : Int) pkv ks tk,
      ⟨n0.toNat, fg [0, 2, 5, 6, 7] _, _, WkM.fg hg, 0, [], 2, .ns, none, Nat.zero_le _, rfl, rfl, rfl, hz3⟩, ?_⟩
    rintro n e s' ⟨i, ks, a, pkv, tk, hi, rfl, hk, rfl, hQ⟩
    obtain ⟨hal, hkl, hkk⟩ := ksI_le h1' i hk
    conv => whnf
    refine sghx ?_
    refine HM.ops ?_
    conv => whnf
    refine sghx ?_
    refine ⟨rfl, by decide, _, hm1, ?_⟩
    conv => whnf
    refine sghx ?_
    rw [show wrapF .i64 ((n0.toNat : Nat) : Int) = ((n0.toNat : Nat) : Int) from wrapU8 n0]
    conv => whnf
    refine sghx ?_
    refine brB_iff.2 ⟨fun h2 => ?_, fun h2 => ?_⟩ <;> conv => whnf
    · have hlt : i < n0.toNat := by rw [ltZ_eq] at h2; simpa using h2
      have bad : ∀ {j}, ksI bs j = none → j ≤ n0.toNat → rofV none = B := fun {j} h hj => hbadB (by
        unfold progP; rw [h0, h11]; simp only [ksI_none h _ hj])
      have hR := hQ.r
      have hG := hQ.w
      have hRs := hQ.hR
      refine sghx ?_
      refine HM.ops ?_
      conv => whnf
      refine sghx ?_
      rw [hlb]
      refine brB_iff.2 ⟨fun h3 => ?_, fun h3 => ?_⟩ <;> conv => whnf
      · have hx3 : bs[a]? = none := by rw [List.getElem?_eq_none_iff]; rw [leZ_eq] at h3; simpa using h3
        refine sgh ?_
        refine HO.opA (krun_build (cs := [.i .i64 0, .ns]) (by rfl)) ?_
        conv => whnf
        refine HO.opA (krun_store (n := 2) (l := R) (o := 0) (v := .ag [.i .i64 0, .ns]) (cs' := [.i .i64 0, .ns]) (by rfl) (by rfl) hR rfl rfl (Nat.zero_le _) (by simp) rfl) ?_
        have hR9 : (s'.put R (some zR)).get R = some zR := St.get_put_same _ _ _
        have hG9 := hG.put hRs (some zR)
        generalize St.put s' R _ = z9 at *
        conv => whnf
        refine sgh ?_
        exact fin16_bad ht hx (bad (j := i + 1) (by simp only [ksI, hk, kindP, hx3]) hlt) nthx nthx nthx hR9 hG9
      · have hlen : a < bs.length := by rw [leZ_eq] at h3; simpa using h3
        have hx3 : bs[a]? = some bs[a] := List.getElem?_eq_getElem hlen
        generalize bs[a] = o at hx3
        have hmx := bs_get hx3
        have ho := o.toNat_lt
        refine sghx ?_
        refine HM.ops ?_
        conv => whnf
        refine sghx ?_
        refine ⟨rfl, Int.natCast_nonneg _, _, hmx, ?_⟩
        conv => whnf
        refine sghx ?_
        rw [show wrapF .i64 ((o.toNat : Nat) : Int) = ((o.toNat : Nat) : Int) from wrapU8 o]
        conv => whnf
        refine sghx ?_
        refine HM.ops ?_
        conv => whnf
        refine sghx ?_
        rw [wrap_succ hlen (by omega)]
        conv => whnf
        repeat ((first | refine HM.seq ?_ | refine HM.ops ?_ | refine HO.kx rfl ?_ | refine HO.nil ?_); conv => whnf)
        refine kd16 hb (by omega) hQ (many := o.toNat) (by omega) (i := i) rfl (fun hbad e6 z6 g2 g3 g4 hR6 hG6 => ?_) (fun k a' e6 z6 kv tk2 hkd he6 hz6 hA6 => ?_)
        · exact fin16_bad ht hx (bad (j := i + 1) (by simp only [ksI, hk, kindP, hx3, hbad]) hlt) g2 g3 g4 hR6 hG6
        · conv => whnf
          refine HM.fgt gnm0 [0, 2, 5, 6, 7, 9] (fun hg => ?_)
          rw [he6]
          refine HM.vw (t := 9) (u := kV k) (.succ (.succ (.succ (.succ (.succ (.succ (.succ (.succ (.succ .zero))))))))) (.one hA6.vw) ?_
          conv => whnf
          have hN6 := hz6.n
          refine HM.ops ?_
          conv => whnf
          refine sghx ?_
          refine HO.opA (krun_bsl1 (v := kV k) (by rfl) rfl rfl) ?_
          conv => whnf
          refine HO.kx rfl ?_
          conv => whnf
          refine app_step hz6.g rfl hz6.a (src_one rfl) (room_s (by rw [List.length_map]; omega) (by omega)) (fun pkv' z7 tk' hA7 hg7 hor hn7 hgg hfr => ?_)
          have hA7' : Rf.Acc z7 1 pkv' ((ks ++ [k]).map kV) tk' := by rw [List.map_append]; exact hA7
          obtain ⟨hN7, hz8⟩ := hz6.push hA7' hg7 hor hn7 hgg hfr
          refine hN_abs ?_
          conv => whnf
          refine sghx ?_
          refine HO.opA (krun_store (n := 1) (l := N) (o := 0 + 1) (v := pkv') (cs' := [.i .i64 (v0.toNat : Nat), pkv']) (by rfl) (by rfl) hN7 hA7.val.1 (by rw [hA7.val.2]; rfl) (Nat.zero_le _) (by simp) (by rw [hA7.val.2]; rfl)) ?_
          generalize St.put z7 _ _ = z8 at *
          conv => whnf
          refine HO.nil ?_
          conv => whnf
          refine HM.ops ?_
          conv => whnf
          refine sghx ?_
          rw [wrap_succ hlt (by omega)]
          intro hg'
          exact ⟨n0.toNat - (i + 1), fg [0, 2, 5, 6, 7] _, _, by omega, WkM.fg hg', i + 1, ks ++ [k], a', pkv', tk', hlt, rfl, by simp only [ksI, hk, kindP, hx3, hkd], rfl, hz8⟩
    · have hge : i = n0.toNat := by rw [ltZ_eq] at h2; simp at h2; omega
      subst hge
      have hprog : progP bs = some (((v0.toNat : Nat) : Int), ks, a) := by
        unfold progP; rw [h0, h11]; simp only [hk]
      have hofB : ofB bs = if mayP ((v0.toNat : Nat) : Int) ks = true then some (((v0.toNat : Nat) : Int), ks, a) else none := by
        unfold ofB; rw [hprog]
      refine HM.obw hQ.n (.cons (.refl _) (.cons hQ.a.vw .nil)) ?_
      have hN9 : (s'.put N (some (.c [.i .i64 (v0.toNat : Nat), .pu 1 (ks.map kV) .u] 0 (some 38)))).get N = some (.c [.i .i64 (v0.toNat : Nat), .pu 1 (ks.map kV) .u] 0 (some 38)) := St.get_put_same _ _ _
      have hR : (s'.put N (some (.c [.i .i64 (v0.toNat : Nat), .pu 1 (ks.map kV) .u] 0 (some 38)))).get R = some zR := by rw [St.get_put_ne _ _ _ _ hQ.ne]; exact hQ.r
      have hG := hQ.w.put hQ.hN (some (.c [.i .i64 (v0.toNat : Nat), .pu 1 (ks.map kV) .u] 0 (some 38)))
      have hRs := hQ.hR
      generalize s'.put N _ = z8 at *
      conv => whnf
      refine sgh ?_
      refine ⟨_, _, rmay_den ((v0.toNat : Nat) : Int) ks (by omega) hkk z8, ?_⟩
      cases hmay : mayP ((v0.toNat : Nat) : Int) ks
      · rw [hmay] at hofB
        conv => whnf
        refine sgh ?_
        refine HO.opA (krun_build (cs := [.i .i64 0, .ns]) (by rfl)) ?_
        conv => whnf
        refine HO.opA (krun_store (n := 2) (l := R) (o := 0) (v := .ag [.i .i64 0, .ns]) (cs' := [.i .i64 0, .ns]) (by rfl) (by rfl) hR rfl rfl (Nat.zero_le _) (by simp) rfl) ?_
        have hR9 : (z8.put R (some zR)).get R = some zR := St.get_put_same _ _ _
        have hG9 := hG.put hRs (some zR)
        generalize St.put z8 R _ = z9 at *
        conv => whnf
        refine sgh ?_
        exact fin16_bad ht hx (by rw [← hB, hofB]; rfl) nthx nthx nthx hR9 hG9
      · rw [hmay] at hofB
        conv => whnf
        refine sgh ?_
        refine HO.opA (krun_store (n := 2) (l := R) (o := 0) (v := .ag [.i .i64 (v0.toNat : Nat), .pu 1 (ks.map kV) .u]) (cs' := [.i .i64 (v0.toNat : Nat), .pu 1 (ks.map kV) .u]) (by rfl) (by rfl) hR rfl rfl (Nat.zero_le _) (by simp) rfl) ?_
        have hR9 : (z8.put R (some (.c [.i .i64 (v0.toNat : Nat), .pu 1 (ks.map kV) .u] 0 (some 38)))).get R = some (.c [.i .i64 (v0.toNat : Nat), .pu 1 (ks.map kV) .u] 0 (some 38)) := St.get_put_same _ _ _
        have hG9 := hG.put hRs (some (.c [.i .i64 (v0.toNat : Nat), .pu 1 (ks.map kV) .u] 0 (some 38)))
        generalize St.put z8 R _ = z9 at *
        conv => whnf
        refine sgh ?_
        exact fin16 ht hx (b := true) (a := (a : Nat)) (by rw [← hB, hofB]; rfl) (fun L => by rw [← hB]; exact rofV_nm _) nthx nthx nthx hR9 hG9
end Go.Proofs.YtlhopiehnaabgaaDoor
