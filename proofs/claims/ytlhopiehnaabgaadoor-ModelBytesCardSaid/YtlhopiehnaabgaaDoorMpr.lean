/-
  Contracts: the model's reader: a process. No statement stands here.
-/
import Derived.Test.YtlhopiehnaabgaaDoorLE
import Derived.Test.YtlhopiehnaabgaaDoorMrd
import Derived.Test.YtlhopiehnaabgaaDoorPlain
set_option linter.all false
namespace Go.Proofs.YtlhopiehnaabgaaDoor
open Go Rf
set_option maxRecDepth 100000
set_option maxHeartbeats 4000000

def vsR (bs : List UInt8) : Nat → RS → List Int × RS
  | 0, r => ([], r)
  | n + 1, r => ((vsR bs n r).1 ++ [(nuR bs 8 (vsR bs n r).2).1], (nuR bs 8 (vsR bs n r).2).2)
theorem vsR_le {bs : List UInt8} {r : RS} (h : r.1 ≤ bs.length) : ∀ n, (vsR bs n r).2.1 ≤ bs.length
  | 0 => h
  | n + 1 => nuR_le (vsR_le h n)
theorem vsR_len {bs : List UInt8} {r : RS} : ∀ n, (vsR bs n r).1.length = n
  | 0 => rfl
  | n + 1 => by simp [vsR, vsR_len n]
def pr0 : Pr := ((0, []), [], 0)
def prR (bs : List UInt8) : RS → Pr × RS
  | (a, some k) => (pr0, (a, some k))
  | (a, none) => match ofB (bs.drop a) with
    | none => (pr0, (a, some a))
    | some (v, ks, n) =>
      (((v, ks), (vsR bs v.toNat (a + n, none)).1, (nuR bs 8 (vsR bs v.toNat (a + n, none)).2).1), (nuR bs 8 (vsR bs v.toNat (a + n, none)).2).2)
theorem ofB_v {bs : List UInt8} {v : Int} {ks : List Kd} {n : Nat} (h : ofB bs = some (v, ks, n)) : 0 ≤ v ∧ v ≤ 8 ∧ n ≤ bs.length ∧ ks.length ≤ 255 ∧ ∀ k ∈ ks, k.length ≤ 255 := by
  have h2 := (ofB_enc h).2
  unfold ofB at h
  cases hp : progP bs with
  | none => rw [hp] at h; cases h
  | some y =>
    obtain ⟨v', ks', a'⟩ := y
    rw [hp] at h
    simp only at h
    split at h
    · rename_i hm
      cases h
      refine ⟨?_, ?_, h2⟩ <;> (simp [mayP] at hm; omega)
    · cases h
theorem prR_le {bs : List UInt8} {r : RS} (h : r.1 ≤ bs.length) : (prR bs r).2.1 ≤ bs.length := by
  obtain ⟨a, k⟩ := r
  cases k with
  | some k => exact h
  | none =>
    have h : a ≤ bs.length := h
    cases hof : ofB (bs.drop a) with
    | none => simp only [prR, hof]; exact h
    | some x =>
      obtain ⟨v, ks, n⟩ := x
      have h2 := (ofB_v hof).2.2.1
      rw [List.length_drop] at h2
      simp only [prR, hof]
      exact nuR_le (vsR_le (by show a + n ≤ _; omega) _)
theorem pr0_vw : Vw (.ag [.i .i64 0, .ns, .ns, .i .i64 0]) (prV pr0) := .ag _ _ (.cons (.refl _) (.cons (.ns 1) (.cons (.ns 1) (.cons (.refl _) .nil))))

def EV (R P cnt i : Nat) : List V := (.p R 0 :: .bad :: .p P 0 :: .bad :: .bad :: .bad :: .bad :: .bad :: .bad :: .bad :: .bad :: .bad :: .bad :: .bad :: .bad :: .bad :: .bad :: .bad :: .bad :: .bad :: .bad :: .bad :: .bad :: .bad :: .bad :: .bad :: .bad :: .bad :: .bad :: .bad :: .bad :: .bad :: .bad :: .bad :: .bad :: .bad :: .bad :: .bad :: .bad :: .bad :: .bad :: .bad :: .bad :: .bad :: .bad :: .bad :: .bad :: .bad :: .bad :: .i .i64 (cnt : Nat) :: .i .i64 (i : Nat) :: List.replicate 13 .bad)
theorem mproc_den (s : St) (hx : NoX s) (R : Nat) (bs : List UInt8) (hb : bs.length ≤ 5000) (r : RS) (ha : r.1 ≤ bs.length) (hs : s.get R = some (rdM bs r)) :
    Den gt0 Tryd.prog 29 [.p R 0] s (prV (prR bs r).1) (s.put R (some (rdM bs (prR bs r).2))) := by
  have hlb : (bs.map bV).length = bs.length := List.length_map ..
  have hdr : ∀ a, ((bs.map bV).take (bs.map bV).length).drop a = (bs.drop a).map bV := fun a => by rw [List.take_length, List.map_drop]
  obtain ⟨a, k⟩ := r
  have ha : a ≤ bs.length := ha
  cases k with
  | some k =>
    have hs : s.get R = some (.c [bsV bs, .i .i64 (a : Nat), .ifc 119 (.ag [.i .i64 (k : Nat)])] 0 (some 71)) := hs
    refine Den.tidy fun ht => Den.hm gnm0 hF29 ?_
    have hg := ht.1
    have K := Kn.init1 hg hx hs
    conv => whnf
    refine kgo ?_; (repeat (first | intro (X:Nat) | intro (z:St) | intro (av:V) | intro (tk:Option Nat) | (intro (K1:Kn _ _ _); (try clear K); rename Kn _ _ _ => K))); conv => whnf
    exact K.ret1 [.ag [.i .i64 0, .ns, .ns, .i .i64 0]] ht hx (prV_nm _) (rdM_nm bs a (some k)) pr0_vw (hg.1 _ _ hs)
  | none =>
    have hs : s.get R = some (.c [bsV bs, .i .i64 (a : Nat), .ni] 0 (some 71)) := hs
    refine Den.tidy fun ht => Den.hm gnm0 hF29 ?_
    have hg := ht.1
    have hR : s.L R := hg.1 _ _ hs
    have K := Kn.init1 hg hx hs
    conv => whnf
    refine kgo ?_; (repeat (first | intro (X:Nat) | intro (z:St) | intro (av:V) | intro (tk:Option Nat) | (intro (K1:Kn _ _ _); (try clear K); rename Kn _ _ _ => K))); conv => whnf
    revert X; intro P0 K
    refine kxslc (xs := bs.map bV) a (bs.map bV).length ?_ (by omega) (Nat.le_refl _)
    rw [hdr]
    conv => whnf
    refine kgo ?_; (repeat (first | intro (X:Nat) | intro (z:St) | intro (av:V) | intro (tk:Option Nat) | (intro (K1:Kn _ _ _); (try clear K); rename Kn _ _ _ => K))); conv => whnf
    refine ⟨_, _, ofB_den (bs.drop a) (by rw [List.length_drop]; omega) _, ?_⟩
    cases hof : ofB (bs.drop a) with
    | none =>
      have e1 : prR bs (a, none) = (pr0, (a, some a)) := by simp only [prR, hof]
      rw [e1]
      conv => whnf
      refine kgo ?_; (repeat (first | intro (X:Nat) | intro (z:St) | intro (av:V) | intro (tk:Option Nat) | (intro (K1:Kn _ _ _); (try clear K); rename Kn _ _ _ => K))); conv => whnf
      exact K.ret1 [.ag [.i .i64 0, .ns, .ns, .i .i64 0]] ht hx (prV_nm _) (rdM_nm bs a (some a)) pr0_vw (hg.1 _ _ hs)
    | some x =>
      obtain ⟨v, ks, n⟩ := x
      obtain ⟨hv0, hv8, hn, -, -⟩ := ofB_v hof
      rw [List.length_drop] at hn
      obtain ⟨c, rfl⟩ := Int.eq_ofNat_of_zero_le hv0
      have e1 : prR bs (a, none) = ((((c : Int), ks), (vsR bs c (a + n, none)).1, (nuR bs 8 (vsR bs c (a + n, none)).2).1), (nuR bs 8 (vsR bs c (a + n, none)).2).2) := by simp only [prR, hof, Int.toNat_natCast]
      rw [e1]
      conv => whnf
      refine kgo ?_; (repeat (first | intro (X:Nat) | intro (z:St) | intro (av:V) | intro (tk:Option Nat) | (intro (K1:Kn _ _ _); (try clear K); rename Kn _ _ _ => K))); conv => whnf
      have hw : wrapF .i64 ((a : Nat) + (n : Nat) : Int) = ((a + n : Nat) : Int) := by rw [wI]; omega
      rw [hw] at K
      have hle := fun j => vsR_le (bs := bs) (r := (a + n, none)) (by show a + n ≤ _; omega) j
      generalize hr0 : ((a + n, none) : RS) = r0 at *
      have K := K.drop0 rfl
      refine HM.loop gnm0 fun hg => ⟨fun m e z' => ∃ (j : Nat) (vv : V) (tk : Option Nat), j ≤ c ∧ m = c - j ∧ e = EV R P0 c j ∧ Kn s z' [.ac 1 vv ((vsR bs j r0).1.map iV) tk, .ob true P0 (.c [.i .i64 (c : Int), ksV ks, vv, .i .i64 0] 0 (some 62)), .ob false R (rdM bs (vsR bs j r0).2)],
        ⟨c, fg [0, 2, 49, 50] _, _, WkM.fg hg, 0, .ns, none, Nat.zero_le _, rfl, rfl, by subst hr0; exact K.acc0 1⟩, ?_⟩
      clear K
      rintro m e z1 ⟨j, vv, tk, hj, rfl, rfl, K⟩
      have hvl := vsR_len (bs := bs) (r := r0) j
      conv => whnf
      refine kgo ?_; (repeat (first | intro (X:Nat) | intro (z:St) | intro (av:V) | intro (tk:Option Nat) | (intro (K1:Kn _ _ _); (try clear K); rename Kn _ _ _ => K))); conv => whnf
      refine brL ⟨fun h1 => ?_, fun h1 => ?_⟩ <;> conv => whnf
      · refine kgo ?_; (repeat (first | intro (X:Nat) | intro (z:St) | intro (av:V) | intro (tk:Option Nat) | (intro (K1:Kn _ _ _); (try clear K); rename Kn _ _ _ => K))); conv => whnf
        have h0 : z1.get P0 = some (.c [.i .i64 (c : Int), ksV ks, vv, .i .i64 0] 0 (some 62)) := K.get (.there .here)
        have D := mnum_den z1 K.x R bs hb (vsR bs j r0).2 8 (by omega) (hle j) (K.get (.there (.there .here)))
        refine kc1 D fun z2 K1 => ?_
        clear K D; rename Kn _ _ _ => K
        conv => whnf
        refine kgo ?_; (repeat (first | intro (X:Nat) | intro (z:St) | intro (av:V) | intro (tk:Option Nat) | (intro (K1:Kn _ _ _); (try clear K); rename Kn _ _ _ => K))); conv => whnf
        intro hg'
        refine ⟨c - (j + 1), fg [0, 2, 49, 50] _, _, by omega, WkM.fg hg', j + 1, av, tk, h1, rfl, rfl, K.cast ?_⟩
        simp [vsR, iV]
        rfl
      · have hjc : j = c := by omega
        subst hjc
        refine kgo ?_; (repeat (first | intro (X:Nat) | intro (z:St) | intro (av:V) | intro (tk:Option Nat) | (intro (K1:Kn _ _ _); (try clear K); rename Kn _ _ _ => K))); conv => whnf
        have D := mnum_den z1 K.x R bs hb (vsR bs j r0).2 8 (by omega) (hle j) (K.get (.there (.there .here)))
        refine kc1 D fun z2 K1 => ?_
        clear K D; rename Kn _ _ _ => K
        conv => whnf
        refine kgo ?_; (repeat (first | intro (X:Nat) | intro (z:St) | intro (av:V) | intro (tk:Option Nat) | (intro (K1:Kn _ _ _); (try clear K); rename Kn _ _ _ => K))); conv => whnf
        exact K.ret1 [.ag [.i .i64 (j : Int), ksV ks, vv, .i .i64 (nuR bs 8 (vsR bs j r0).2).1]] ht hx (prV_nm _) (rdM_nm bs _ _) (.ag _ _ (.cons (.refl _) (.cons (.refl _) (.cons (K.vw .here) (.cons (.refl _) .nil))))) hR
end Go.Proofs.YtlhopiehnaabgaaDoor
