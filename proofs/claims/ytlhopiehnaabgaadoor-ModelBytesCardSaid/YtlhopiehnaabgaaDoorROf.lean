/-
  Contracts: bytes read by the other road. No statement stands here.
-/
import Derived.Test.YtlhopiehnaabgaaDoorLE
import Derived.Test.YtlhopiehnaabgaaDoorNumb
set_option linter.all false
namespace Go.Proofs.YtlhopiehnaabgaaDoor
open Go Rf
set_option maxRecDepth 100000
set_option maxHeartbeats 4000000

abbrev zR : O := .c [.i .i64 0, .ns] 0 (some 38)
structure QI (s z : St) (R N : Nat) (v : Int) (pkv : V) (ks : List Kd) (tk : Option Nat) : Prop where
  w : Grow s z
  r : z.get R = some zR
  n : z.get N = some (.c [.i .i64 v, pkv] 0 (some 38))
  a : Acc z 1 pkv (ks.map kV) tk
  g : Rf.Good z
  hR : s.n ≤ R
  hN : s.n ≤ N
  ne : R ≠ N
  tn : ∀ k, tk = some k → s.n ≤ k
section
variable {s z : St} {R N : Nat} {v : Int} {pkv : V} {ks : List Kd} {tk : Option Nat}
theorem QI.new (h : QI s z R N v pkv ks tk) (o : O) : QI s (z.new o) R N v pkv ks tk :=
  ⟨h.w.new o, by rw [St.get_new_ne _ _ _ (Nat.ne_of_lt (h.g.1 R _ h.r).1)]; exact h.r, by rw [St.get_new_ne _ _ _ (Nat.ne_of_lt (h.g.1 N _ h.n).1)]; exact h.n, h.a.newk h.g o, h.g.new, h.hR, h.hN, h.ne, h.tn⟩
theorem QI.oth (h : QI s z R N v pkv ks tk) {X zz : Nat} {cs cs' : List V} {ty : Option Nat} (hX : z.get X = some (.c cs zz ty)) (h1 : s.n ≤ X) (h2 : X ≠ N) (h3 : X ≠ R) : QI s (z.put X (some (.c cs' zz ty))) R N v pkv ks tk :=
  ⟨h.w.put h1 _, by rw [St.get_put_ne _ _ _ _ (Ne.symm h3)]; exact h.r, by rw [St.get_put_ne _ _ _ _ (Ne.symm h2)]; exact h.n, h.a.putc hX _, h.g.put hX, h.hR, h.hN, h.ne, h.tn⟩
theorem QI.app (h : QI s z R N v pkv ks tk) {kv : V} {xs : List V} {tk2 : Option Nat} (hA : Acc z 2 kv xs tk2) (ht2 : ∀ q, tk2 = some q → s.n ≤ q) (ht3 : ∀ q, tk = some q → tk2 ≠ some q) {z' : St} {tk' : Option Nat} (hg : Rf.Good z') (hor : tk' = tk2 ∨ (tk2 = none ∧ tk' = some z.n)) (hn : z.n ≤ z'.n) (hgg : z'.g = z.g) (hfr : ∀ j, tk' ≠ some j → j < z.n → z'.get j = z.get j) :
    QI s z' R N v pkv ks tk ∧ (∀ q, tk' = some q → s.n ≤ q) ∧ (∀ q, tk = some q → tk' ≠ some q) := by
  have hNn := (h.g.1 N _ h.n).1
  have hRn := (h.g.1 R _ h.r).1
  have h1 : ∀ q, tk' = some q → s.n ≤ q := fun q hq => by
    rcases hor with e | ⟨-, e⟩
    · exact ht2 q (by rw [← e]; exact hq)
    · rw [e] at hq; cases hq; exact h.w.n
  have h2 : ∀ q, tk = some q → tk' ≠ some q := fun q hq e1 => by
    rcases hor with e | ⟨-, e⟩
    · exact ht3 q hq (by rw [← e]; exact e1)
    · rw [e] at e1; cases e1
      have h8 := h.a
      rw [hq] at h8
      exact Nat.lt_irrefl _ (h8.lt h.g)
  have h3 : ∀ {J : Nat} {cs : List V} {zz : Nat} {ty : Option Nat}, z.get J = some (.c cs zz ty) → tk' ≠ some J := fun {J cs zz ty} hJ e1 => by
    rcases hor with e | ⟨-, e⟩
    · rw [e] at e1; exact hA.ne hJ e1
    · rw [e] at e1; cases e1; exact Nat.lt_irrefl _ (h.g.1 _ _ hJ).1
  refine ⟨⟨⟨Nat.le_trans h.w.n hn, by rw [hgg, h.w.g], fun m hm => ?_⟩, by rw [hfr R (h3 h.r) hRn]; exact h.r, by rw [hfr N (h3 h.n) hNn]; exact h.n, h.a.keep fun k hk => hfr k (h2 k hk) (by subst hk; exact h.a.lt h.g), hg, h.hR, h.hN, h.ne, h.tn⟩, h1, h2⟩
  rw [hfr m (fun e => by have := h1 m e; omega) (Nat.lt_of_lt_of_le hm h.w.n)]
  exact h.w.r m hm
theorem QI.push (h : QI s z R N v pkv ks tk) {z' : St} {pkv' : V} {ks' : List Kd} {tk' : Option Nat} (hA : Acc z' 1 pkv' (ks'.map kV) tk') (hg : Rf.Good z')
    (hor : tk' = tk ∨ (tk = none ∧ tk' = some z.n)) (hn : z.n ≤ z'.n) (hgg : z'.g = z.g) (hfr : ∀ j, tk' ≠ some j → j < z.n → z'.get j = z.get j) :
    z'.get N = some (.c [.i .i64 v, pkv] 0 (some 38)) ∧ QI s (z'.put N (some (.c [.i .i64 v, pkv'] 0 (some 38)))) R N v pkv' ks' tk' := by
  have hNn := (h.g.1 N _ h.n).1
  have hRn := (h.g.1 R _ h.r).1
  have h3 : ∀ {J : Nat} {cs : List V} {zz : Nat} {ty : Option Nat}, z.get J = some (.c cs zz ty) → tk' ≠ some J := fun {J cs zz ty} hJ e1 => by
    rcases hor with e | ⟨-, e⟩
    · rw [e] at e1; exact h.a.ne hJ e1
    · rw [e] at e1; cases e1; exact Nat.lt_irrefl _ (h.g.1 _ _ hJ).1
  have htn : ∀ q, tk' = some q → s.n ≤ q := fun q hq => by
    rcases hor with h1 | ⟨-, h1⟩
    · exact h.tn q (by rw [← h1]; exact hq)
    · rw [h1] at hq; cases hq; exact h.w.n
  have hzN : z'.get N = some (.c [.i .i64 v, pkv] 0 (some 38)) := by rw [hfr N (h3 h.n) hNn]; exact h.n
  have hzR : z'.get R = some zR := by rw [hfr R (h3 h.r) hRn]; exact h.r
  have hG : Grow s z' := ⟨Nat.le_trans h.w.n hn, by rw [hgg, h.w.g], fun m hm => by
    rw [hfr m (fun e => by have := htn m e; omega) (Nat.lt_of_lt_of_le hm h.w.n)]; exact h.w.r m hm⟩
  exact ⟨hzN, hG.put h.hN _, by rw [St.get_put_ne _ _ _ _ h.ne]; exact hzR, St.get_put_same _ _ _, hA.putc hzN _, hg.put hzN, h.hR, h.hN, h.ne, htn⟩
end

def c16_2 : C := .blk 2 (.loop (.seq (.seq (.ops [{ d := some 41, g := none, k := .a (.mov (.t 10)) }, { d := some 42, g := none, k := .a (.mov (.t 8)) }, { d := some 43, g := none, k := .a (.bin .lss (.t 41) (.t 42)) }]) (.cond (.t 43) .skip (.exit 2))) (.seq (.blk 3 (.seq (.seq (.ops [{ d := some 46, g := none, k := .a (.mov (.t 6)) }, { d := some 47, g := none, k := .a (.mov (.t 0)) }, { d := some 48, g := none, k := .a (.len (.t 47)) }, { d := some 49, g := none, k := .a (.bin .geq (.t 46) (.t 48)) }]) (.cond (.t 49) (.seq (.ops [{ d := some 50, g := none, k := .a (.build [.i .i64 0, .ns] []) }, { d := none, g := none, k := .a (.store 2 (.t 2) (.t 50)) }, { d := some 3, g := none, k := .a (.mov (.c (.i .i64 0))) }, { d := some 4, g := none, k := .a (.mov (.c (.b false))) }]) .ret) .skip)) (.seq (.ops [{ d := some 51, g := none, k := .a (.mov (.t 0)) }, { d := some 52, g := none, k := .a (.mov (.t 6)) }, { d := some 53, g := none, k := .a (.ia 1 (.t 51) (.t 52)) }, { d := some 54, g := none, k := .a (.load1 (.t 53)) }, { d := some 55, g := none, k := .a (.conv .i64 (.t 54)) }, { d := some 56, g := none, k := .a (.build [.i .i64 0, .i .i64 0] [(0, 1, .t 55)]) }, { d := some 11, g := none, k := .a (.alloc 58 [.i .i64 0, .i .i64 0]) }, { d := none, g := none, k := .a (.store 2 (.t 11) (.t 56)) }]) (.seq (.ops [{ d := some 57, g := none, k := .a (.mov (.t 6)) }, { d := some 58, g := none, k := .a (.bin .add (.t 57) (.c (.i .i64 1))) }, { d := some 6, g := none, k := .a (.mov (.t 58)) }]) (.seq (.seq (.ops [{ d := some 59, g := none, k := .a (.fa 0 (.t 11)) }, { d := some 60, g := none, k := .a (.load1 (.t 59)) }, { d := some 61, g := none, k := .call 58 [.t 60] }]) (.cond (.t 61) (.seq (.seq (.ops [{ d := some 62, g := none, k := .a (.mov (.t 6)) }, { d := some 63, g := none, k := .a (.bin .add (.t 62) (.c (.i .i64 8))) }, { d := some 64, g := none, k := .a (.mov (.t 0)) }, { d := some 65, g := none, k := .a (.len (.t 64)) }, { d := some 66, g := none, k := .a (.bin .gtr (.t 63) (.t 65)) }]) (.cond (.t 66) (.seq (.ops [{ d := some 67, g := none, k := .a (.build [.i .i64 0, .ns] []) }, { d := none, g := none, k := .a (.store 2 (.t 2) (.t 67)) }, { d := some 3, g := none, k := .a (.mov (.c (.i .i64 0))) }, { d := some 4, g := none, k := .a (.mov (.c (.b false))) }]) .ret) .skip)) (.seq (.ops [{ d := some 68, g := none, k := .a (.mov (.t 0)) }, { d := some 69, g := none, k := .a (.mov (.t 6)) }, { d := some 70, g := none, k := .a (.mov (.t 6)) }, { d := some 71, g := none, k := .a (.bin .add (.t 70) (.c (.i .i64 8))) }, { d := some 72, g := none, k := .a (.slc 1 (.t 68) (some (.t 69)) (some (.t 71)) none) }, { d := some 73, g := none, k := .call 34 [.t 72] }, { d := some 74, g := none, k := .a (.conv .i64 (.t 73)) }, { d := some 75, g := none, k := .a (.fa 1 (.t 11)) }, { d := none, g := none, k := .a (.store 1 (.t 75) (.t 74)) }]) (.ops [{ d := some 76, g := none, k := .a (.mov (.t 6)) }, { d := some 77, g := none, k := .a (.bin .add (.t 76) (.c (.i .i64 8))) }, { d := some 6, g := none, k := .a (.mov (.t 77)) }]))) .skip)) (.ops [{ d := some 78, g := none, k := .a (.mov (.t 9)) }, { d := some 79, g := none, k := .a (.loadn 2 (.t 11)) }, { d := some 80, g := none, k := .a (.bsl 58 true true 1 2 [.i .i64 0, .i .i64 0] [(0, 2, .t 79)]) }, { d := some 81, g := none, k := .a (.app 58 true true 2 16 (.t 78) (.t 80)) }, { d := some 9, g := none, k := .a (.mov (.t 81)) }])))))) (.ops [{ d := some 44, g := none, k := .a (.mov (.t 10)) }, { d := some 45, g := none, k := .a (.bin .add (.t 44) (.c (.i .i64 1))) }, { d := some 10, g := none, k := .a (.mov (.t 45)) }]))))
def EG (bs : List UInt8) (R N a i many j : Nat) (kv : V) : List V := (bsV bs :: .bad :: .p R 0 :: .bad :: .bad :: .p N 0 :: .i .i64 (a : Nat) :: .i .i64 (i : Nat) :: .i .i64 (many : Nat) :: kv :: .i .i64 (j : Nat) :: List.replicate 83 .bad)
def EG3 (bs : List UInt8) (R N a i : Nat) (kv : V) : List V := (bsV bs :: .bad :: .p R 0 :: .bad :: .bad :: .p N 0 :: .i .i64 (a : Nat) :: .i .i64 (i : Nat) :: .bad :: kv :: List.replicate 84 .bad)
def EG0 (bs : List UInt8) (R N a i : Nat) : List V := (bsV bs :: .bad :: .p R 0 :: .bad :: .bad :: .p N 0 :: .i .i64 (a : Nat) :: .i .i64 (i : Nat) :: List.replicate 86 .bad)
theorem bs_get {bs : List UInt8} {a : Nat} {x : UInt8} (h : bs[a]? = some x) : (bs.map bV)[((a : Nat) : Int).toNat]? = some (bV x) := by simp [h]

theorem slc_u {e : List V} {s : St} {x l h : Arg} {sz a b : Nat} {xs : List V} (hx : x.ev e = .pu sz xs .u) (hl : l.ev e = .i .i64 ((a : Nat) : Int)) (hh : h.ev e = .i .i64 ((b : Nat) : Int)) (hab : a ≤ b) (hb : b ≤ xs.length) (ha : 0 < a) : aop e s (.slc sz x (some l) (some h) none) = some (.pu sz ((xs.take b).drop a) .u, s) := by
  have h1 : slb xs.length (capOr .u xs.length) (some (.i .i64 ((a : Nat) : Int))) (some (.i .i64 ((b : Nat) : Int))) none = some (a, b, xs.length) := by
    have e1 : bnd xs.length (.i .i64 ((b : Nat) : Int)) = some b := by simp [bnd, hb]
    have e2 : bnd b (.i .i64 ((a : Nat) : Int)) = some a := by simp [bnd, hab]
    delta slb
    simp only [capOr, e1, e2]
  simp only [aop, hx, Option.map, hl, hh, h1]
  simp only [ne_eq, not_true_eq_false, if_false, if_neg (show ¬ xs.length < b by omega), if_neg (show ¬ (a = 0 ∧ b = xs.length) by omega)]
theorem wrap8 {a : Nat} (h : a ≤ 5000) : wrapF .i64 (((a + 1 : Nat) : Int) + 8) = ((a + 9 : Nat) : Int) := by rw [wI]; omega
theorem wrapU8 (o : UInt8) : wrapF .i64 ((o.toNat : Nat) : Int) = ((o.toNat : Nat) : Int) := by
  have := o.toNat_lt
  rw [wI]; omega

theorem kd16 {s z : St} {R N : Nat} {bs : List UInt8} {a0 : Nat} {v : Int} {pkv : V} {ks : List Kd} {tk : Option Nat} (hb : bs.length ≤ 5000) (ha0 : a0 ≤ bs.length) (h : QI s z R N v pkv ks tk) {i many : Nat} (hmany : many ≤ 255) {e : List V} (he : fg [0, 2, 5, 6, 7, 8, 9, 10] e = EG bs R N a0 i many 0 .ns) {Q : XM → List V → St → Prop}
    (hp : kdI bs a0 many = none → ∀ e s', Nth e 2 (.p R 0) → Nth e 3 (.i .i64 0) → Nth e 4 (.b false) → s'.get R = some zR → Grow s s' → Q .ret e s')
    (hq : ∀ k a e s' kv tk2, kdI bs a0 many = some (k, a) → fg [0, 2, 5, 6, 7, 9] e = EG3 bs R N a i kv → QI s s' R N v pkv ks tk → Acc s' 2 kv (k.map insV) tk2 → Q .nrm e s') : HM gt0 Tryd.prog s c16_2 e z Q := by
  have hm : 10000 ≤ maxLen := by decide
  have hlb : (bs.map bV).length = bs.length := List.length_map ..
  refine HM.blk ?_
  refine HM.loop gnm0 fun hg => ⟨fun n e s' => ∃ (j : Nat) (k : Kd) (a : Nat) (kv : V) (tk2 : Option Nat), j ≤ many ∧ n = many - j ∧ kdI bs a0 j = some (k, a) ∧ e = EG bs R N a i many j kv ∧ QI s s' R N v pkv ks tk ∧ Acc s' 2 kv (k.map insV) tk2 ∧ (∀ q, tk2 = some q → s.n ≤ q) ∧ (∀ q, tk = some q → tk2 ≠ some q),
    ⟨many, fg [0, 2, 5, 6, 7, 8, 9, 10] _, _, WkM.fg hg, 0, [], a0, .ns, none, Nat.zero_le _, rfl, rfl, he, h, Acc.nil z 2, fun q hq => (by cases hq), fun q _ hq => (by cases hq)⟩, ?_⟩
  rintro n e s' ⟨j, k, a, kv, tk2, hj, rfl, hk, rfl, hQ, hA, ht2, ht3⟩
  obtain ⟨hal, hkl⟩ := kdI_le ha0 j hk
  conv => whnf
  refine sgh ?_
  refine brB_iff.2 ⟨fun h1 => ?_, fun h1 => ?_⟩ <;> conv => whnf
  · have hlt : j < many := by rw [ltZ_eq] at h1; simpa using h1
    refine sgh ?_
    rw [hlb]
    refine brB_iff.2 ⟨fun h2 => ?_, fun h2 => ?_⟩ <;> conv => whnf
    · have hx : bs[a]? = none := by rw [List.getElem?_eq_none_iff]; rw [leZ_eq] at h2; simpa using h2
      have hbad : kdI bs a0 many = none := kdI_none (i := j + 1) (by simp only [kdI, hk, insP, hx]) _ hlt
      have hR := hQ.r
      have hRs := hQ.hR
      have hG := hQ.w
      refine sgh ?_
      refine HO.opA (krun_build (cs := [.i .i64 0, .ns]) (by rfl)) ?_
      conv => whnf
      refine HO.opA (krun_store (n := 2) (l := R) (o := 0) (v := .ag [.i .i64 0, .ns]) (cs' := [.i .i64 0, .ns]) (by rfl) (by rfl) hR rfl rfl (Nat.zero_le _) (by simp) rfl) ?_
      have hR9 : (s'.put R (some zR)).get R = some zR := St.get_put_same _ _ _
      have hG9 := hG.put hRs (some zR)
      generalize St.put s' R _ = z9 at *
      conv => whnf
      refine sgh ?_
      exact hp hbad _ _ nthx nthx nthx hR9 hG9
    · have hlen : a < bs.length := by rw [leZ_eq] at h2; simpa using h2
      have hx : bs[a]? = some bs[a] := List.getElem?_eq_getElem hlen
      generalize bs[a] = o at hx
      have hmx := bs_get hx
      refine sghx ?_
      refine HM.ops ?_
      conv => whnf
      refine sghx ?_
      refine ⟨rfl, Int.natCast_nonneg _, _, hmx, ?_⟩
      conv => whnf
      refine sghx ?_
      rw [show wrapF .i64 ((o.toNat : Nat) : Int) = ((o.toNat : Nat) : Int) from wrapU8 o]
      refine HO.opA (krun_build (cs := [.i .i64 (o.toNat : Nat), .i .i64 0]) (fillp_cons rfl rfl rfl (by decide) rfl)) ?_
      conv => whnf
      refine HO.opA krun_alloc ?_
      have hX3 : (s'.new (.c [.i .i64 0, .i .i64 0] 0 (some 58))).get s'.n = some (.c [.i .i64 0, .i .i64 0] 0 (some 58)) := St.get_new_same _ _
      have hz3 := hQ.new (.c [.i .i64 0, .i .i64 0] 0 (some 58))
      have hA3 := hA.newk hQ.g (.c [.i .i64 0, .i .i64 0] 0 (some 58))
      have hXN : s'.n ≠ N := Nat.ne_of_gt (hQ.g.1 N _ hQ.n).1
      have hXR : s'.n ≠ R := Nat.ne_of_gt (hQ.g.1 R _ hQ.r).1
      have hXs : s.n ≤ s'.n := hQ.w.n
      generalize s'.new _ = z3 at *
      generalize s'.n = X at *
      conv => whnf
      refine HO.opA (krun_store (n := 2) (l := X) (o := 0) (v := .ag [.i .i64 (o.toNat : Nat), .i .i64 0]) (cs' := [.i .i64 (o.toNat : Nat), .i .i64 0]) (by rfl) (by rfl) hX3 rfl rfl (Nat.zero_le _) (by simp) rfl) ?_
      have hX4 : (z3.put X (some (.c [.i .i64 (o.toNat : Nat), .i .i64 0] 0 (some 58)))).get X = some (.c [.i .i64 (o.toNat : Nat), .i .i64 0] 0 (some 58)) := St.get_put_same _ _ _
      have hz4 := hz3.oth (cs' := [.i .i64 (o.toNat : Nat), .i .i64 0]) hX3 hXs hXN hXR
      have hA4 := hA3.putc hX3 (some (.c [.i .i64 (o.toNat : Nat), .i .i64 0] 0 (some 58)))
      generalize St.put z3 _ _ = z4 at *
      conv => whnf
      refine sghx ?_
      refine HM.ops ?_
      conv => whnf
      refine sghx ?_
      rw [wrap_succ hlen (by omega)]
      conv => whnf
      refine sghx ?_
      refine HM.ops ?_
      conv => whnf
      refine sghx ?_
      refine ⟨_, _, rnb_den _ _, ?_⟩
      conv => whnf
      refine sghx ?_
      refine brB_iff.2 ⟨fun hnb => ?_, fun hnb => ?_⟩ <;> conv => whnf
      · refine sghx ?_
        refine HM.ops ?_
        conv => whnf
        refine sghx ?_
        rw [hlb, wrap8 (by omega)]
        refine brB_iff.2 ⟨fun h9 => ?_, fun h9 => ?_⟩ <;> conv => whnf
        · have h9' : ¬ a + 9 ≤ bs.length := by rw [ltZ_eq] at h9; simp only [decide_eq_true_eq] at h9; omega
          have hbad : kdI bs a0 many = none := kdI_none (i := j + 1) (by simp only [kdI, hk, insP, hx, hnb, if_true, if_neg h9']) _ hlt
          have hR := hz4.r
          have hRs := hz4.hR
          have hG := hz4.w
          refine sgh ?_
          refine HO.opA (krun_build (cs := [.i .i64 0, .ns]) (by rfl)) ?_
          conv => whnf
          refine HO.opA (krun_store (n := 2) (l := R) (o := 0) (v := .ag [.i .i64 0, .ns]) (cs' := [.i .i64 0, .ns]) (by rfl) (by rfl) hR rfl rfl (Nat.zero_le _) (by simp) rfl) ?_
          have hR9 : (z4.put R (some zR)).get R = some zR := St.get_put_same _ _ _
          have hG9 := hG.put hRs (some zR)
          generalize St.put z4 R _ = z9 at *
          conv => whnf
          refine sgh ?_
          exact hp hbad _ _ nthx nthx nthx hR9 hG9
        · have h9' : a + 9 ≤ bs.length := by rw [ltZ_eq] at h9; simp only [decide_eq_false_iff_not] at h9; omega
          refine sghx ?_
          refine HM.ops ?_
          conv => whnf
          refine sghx ?_
          refine ⟨_, _, slc_u rfl rfl (show V.i .i64 (wrapF .i64 (((a + 1 : Nat) : Int) + 8)) = .i .i64 ((a + 9 : Nat) : Int) by rw [wrap8 (by omega)]) (by omega) (by rw [hlb]; omega) (by omega), ?_⟩
          rw [← List.map_take, ← List.map_drop, List.drop_take, show a + 9 - (a + 1) = 8 by omega]
          conv => whnf
          refine sghx ?_
          refine ⟨_, _, num_den ((bs.drop (a + 1)).take 8) (by rw [List.length_take]; omega) z4, ?_⟩
          conv => whnf
          refine sghx ?_
          rw [← numb_eq]
          refine HO.opA (krun_store (n := 1) (l := X) (o := 0 + 1) (v := .i .i64 (numb ((bs.drop (a + 1)).take 8))) (cs' := [.i .i64 (o.toNat : Nat), .i .i64 (numb ((bs.drop (a + 1)).take 8))]) (by rfl) (by rfl) hX4 rfl rfl (Nat.zero_le _) (by simp) rfl) ?_
          have hX5 : (z4.put X (some (.c [.i .i64 (o.toNat : Nat), .i .i64 (numb ((bs.drop (a + 1)).take 8))] 0 (some 58)))).get X = some (.c [.i .i64 (o.toNat : Nat), .i .i64 (numb ((bs.drop (a + 1)).take 8))] 0 (some 58)) := St.get_put_same _ _ _
          have hz5 := hz4.oth (cs' := [.i .i64 (o.toNat : Nat), .i .i64 (numb ((bs.drop (a + 1)).take 8))]) hX4 hXs hXN hXR
          have hA5 := hA4.putc hX4 (some (.c [.i .i64 (o.toNat : Nat), .i .i64 (numb ((bs.drop (a + 1)).take 8))] 0 (some 58)))
          generalize z4.put X _ = z5 at *
          conv => whnf
          refine sghx ?_
          refine HM.ops ?_
          conv => whnf
          refine sghx ?_
          rw [wrap8 (by omega)]
          have hA5' := hA5
          conv => whnf
          refine sghx ?_
          refine HM.ops ?_
          conv => whnf
          refine sghx ?_
          refine app_step hz5.g rfl hA5 src_single (room_s (by rw [List.length_map]; omega) (by omega)) (fun kv' z6 tk' hA6 hg6 hor hn6 hgg hfr => ?_)
          rw [ins_chunk ((((o.toNat : Nat) : Int), numb ((bs.drop (a + 1)).take 8))), ← List.map_append] at hA6
          obtain ⟨hz6, ht2', ht3'⟩ := hz5.app hA5 ht2 ht3 hg6 hor hn6 hgg hfr
          refine hN_abs ?_
          conv => whnf
          refine sghx ?_
          refine HM.ops ?_
          conv => whnf
          refine sghx ?_
          rw [wrap_succ hlt (by omega)]
          intro hg'
          exact ⟨many - (j + 1), fg [0, 2, 5, 6, 7, 8, 9, 10] _, _, by omega, WkM.fg hg', j + 1, k ++ [(((o.toNat : Nat) : Int), numb ((bs.drop (a + 1)).take 8))], (a + 9), kv', tk', hlt, rfl, by simp only [kdI, hk, insP, hx, hnb, if_true, if_pos h9'], rfl, hz6, hA6, ht2', ht3'⟩
      · have hz5 := hz4
        have hA5 := hA4
        have hX5 := hX4
        have hA5' := hA5
        conv => whnf
        refine sghx ?_
        refine HM.ops ?_
        conv => whnf
        refine sghx ?_
        refine app_step hz5.g rfl hA5 src_single (room_s (by rw [List.length_map]; omega) (by omega)) (fun kv' z6 tk' hA6 hg6 hor hn6 hgg hfr => ?_)
        rw [ins_chunk ((((o.toNat : Nat) : Int), 0)), ← List.map_append] at hA6
        obtain ⟨hz6, ht2', ht3'⟩ := hz5.app hA5 ht2 ht3 hg6 hor hn6 hgg hfr
        refine hN_abs ?_
        conv => whnf
        refine sghx ?_
        refine HM.ops ?_
        conv => whnf
        refine sghx ?_
        rw [wrap_succ hlt (by omega)]
        intro hg'
        exact ⟨many - (j + 1), fg [0, 2, 5, 6, 7, 8, 9, 10] _, _, by omega, WkM.fg hg', j + 1, k ++ [(((o.toNat : Nat) : Int), 0)], (a + 1), kv', tk', hlt, rfl, by simp only [kdI, hk, insP, hx, hnb, if_false, Bool.false_eq_true], rfl, hz6, hA6, ht2', ht3'⟩
  · have hge : j = many := by rw [ltZ_eq] at h1; simp at h1; omega
    subst hge
    refine sgh ?_
    exact hq k a _ _ kv tk2 hk rfl hQ hA
end Go.Proofs.YtlhopiehnaabgaaDoor
