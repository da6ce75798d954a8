/-
  The law's walk: ModelSpoilt answers true. No statement stands here.
-/
import Derived.Test.YtlhopiehnaabgaaGreatDoorMrx
import Derived.Test.YtlhopiehnaabgaaGreatDoorMmu
set_option linter.all false
namespace Go.Proofs.YtlhopiehnaabgaaGreatDoor
open Go Rf
set_option maxRecDepth 100000
set_option maxHeartbeats 4000000

theorem hG3 : cF gt1 Tryz.prog (fun r o => !(r == 3 && o == 2)) 3 = some f3 := by kernel_rfl
def okAll (ps : List Pr) (fs : List Ev) : Prop := ps.length ≤ maxLen ∧ fs.length ≤ maxLen ∧ ∀ p ∈ ps, okP p
theorem mtxt_len {ps : List Pr} {fs : List Ev} (hi : I64M ps fs) : (mtxt ps fs).length ≤ 600000 := by
  unfold mtxt
  split
  · rename_i hm
    have hM := mayM_iff.1 hm
    have h1 := flat_len (f := prT) (m := 31300) (l := ps) fun p hp => by
      obtain ⟨q, hq⟩ := List.mem_iff_getElem?.1 hp
      exact prT_len (hi.p p hp) (prOk_of (hM.p q p hq)).2.1
    have h2 := flat_len (f := evT) (m := 94) (l := fs) fun x hx => evT_len (hi.e x hx)
    have hb := hM.b
    have hc := hM.c
    unfold mT
    rw [List.length_append]
    omega
  · simp
theorem b2s_sl {e : List V} {z : St} {x : Arg} {X n : Nat} {S : List UInt8} {t : Option Nat} {d : Nat} (hx : x.ev e = .sl 1 X 0 n none) (hg : z.get X = some (.c (bytesOf S) d t)) (hn : S.length = n) : aop e z (.b2s x) = some (.s S, z) := by
  subst hn
  have hl : (bytesOf S).length = S.length := List.length_map ..
  simp only [aop, hx, hg]
  rw [if_pos (by simp [hl]), List.drop_zero, ← hl, List.take_length, toBytes_of]
  rfl
theorem setAt_set (S : List UInt8) (j : Nat) (b : UInt8) (h : j < S.length) : setAt (bytesOf S) j [bV b] = bytesOf (S.set j b) := by
  have e : setAt (bytesOf S) j [bV b] = (bytesOf S).set j (bV b) := by simp [setAt]
  rw [e]
  simp [bytesOf, List.map_set, bV]
theorem splaw_den (ps : List Pr) (fs : List Ev) (a : Int) (b : UInt8) (h : okAll ps fs) (hI : I64M ps fs) (s : St) (hx : NoX s) : Den gt1 Tryz.prog 3 [mV ps fs, .i .i64 a, bV b] s (.b true) s := by
  refine Den.tidy fun ht => Den.hm gnm1 hG3 ?_
  have K := Kn.init ht.1 hx
  conv => whnf
  refine kgo ?_; (repeat (first | intro (X:Nat) | intro (z:St) | intro (av:V) | intro (tk:Option Nat) | (intro (K1:Kn _ _ _); (try clear K); rename Kn _ _ _ => K))); conv => whnf
  refine ⟨_, _, pup0 (mmuch_den ps fs h.1 (fun p hp => (h.2.2 p hp).1)) _, ?_⟩
  cases hmu : muchM ps fs <;> conv => whnf
  rotate_left
  · refine kgo ?_; (repeat (first | intro (X:Nat) | intro (z:St) | intro (av:V) | intro (tk:Option Nat) | (intro (K1:Kn _ _ _); (try clear K); rename Kn _ _ _ => K))); conv => whnf
    refine ⟨_, _, pup0 mknown_pden _, ?_⟩
    conv => whnf
    refine kgo ?_; (repeat (first | intro (X:Nat) | intro (z:St) | intro (av:V) | intro (tk:Option Nat) | (intro (K1:Kn _ _ _); (try clear K); rename Kn _ _ _ => K))); conv => whnf
    exact K.fin ht hx (.b _) (.refl _)
  have hok := of_muchM hmu
  have hSh : ShM ps fs := ⟨by have := hok.1; omega, by have := hok.2.1; omega, fun q p hq => by
    obtain ⟨h1, h2, h3⟩ := hok.2.2 p (List.mem_of_getElem? hq)
    exact ⟨by omega, fun k hk => by have := h2 k hk; omega, by omega⟩⟩
  refine kgo ?_; (repeat (first | intro (X:Nat) | intro (z:St) | intro (av:V) | intro (tk:Option Nat) | (intro (K1:Kn _ _ _); (try clear K); rename Kn _ _ _ => K))); conv => whnf
  refine ⟨_, _, up0 (rmayM_den ps fs hSh _ K.x), ?_⟩
  cases hm : mayM ps fs <;> conv => whnf
  · refine kgo ?_; (repeat (first | intro (X:Nat) | intro (z:St) | intro (av:V) | intro (tk:Option Nat) | (intro (K1:Kn _ _ _); (try clear K); rename Kn _ _ _ => K))); conv => whnf
    refine ⟨_, _, pup0 mknown_pden _, ?_⟩
    conv => whnf
    refine kgo ?_; (repeat (first | intro (X:Nat) | intro (z:St) | intro (av:V) | intro (tk:Option Nat) | (intro (K1:Kn _ _ _); (try clear K); rename Kn _ _ _ => K))); conv => whnf
    exact K.fin ht hx (.b _) (.refl _)
  refine kgo ?_; (repeat (first | intro (X:Nat) | intro (z:St) | intro (av:V) | intro (tk:Option Nat) | (intro (K1:Kn _ _ _); (try clear K); rename Kn _ _ _ => K))); conv => whnf
  refine ⟨_, _, up0 (rmtx_den ps fs hSh hI _ K.x), ?_⟩
  have hSl := mtxt_len hI
  generalize hSd : mtxt ps fs = S at hSl
  conv => whnf
  refine kgo ?_; (repeat (first | intro (X:Nat) | intro (z:St) | intro (av:V) | intro (tk:Option Nat) | (intro (K1:Kn _ _ _); (try clear K); rename Kn _ _ _ => K))); conv => whnf
  have K1 := K.new (o := .c (bytesOf S) 0 none) rfl
  clear K; rename Kn _ _ _ => K
  generalize s.new (.c (bytesOf S) 0 none) = z1 at K ⊢
  generalize s.n = X at K ⊢
  cases ha0 : ltZ a 0 <;> conv => whnf
  rotate_left
  · refine kgo ?_; (repeat (first | intro (X:Nat) | intro (z:St) | intro (av:V) | intro (tk:Option Nat) | (intro (K1:Kn _ _ _); (try clear K); rename Kn _ _ _ => K))); conv => whnf
    refine ⟨_, _, pup0 mknown_pden _, ?_⟩
    conv => whnf
    refine kgo ?_; (repeat (first | intro (X:Nat) | intro (z:St) | intro (av:V) | intro (tk:Option Nat) | (intro (K1:Kn _ _ _); (try clear K); rename Kn _ _ _ => K))); conv => whnf
    exact K.fin ht hx (.b _) (.refl _)
  obtain ⟨j, rfl⟩ : ∃ j : Nat, a = j := ⟨a.toNat, by rw [ltZ_eq] at ha0; simp only [decide_eq_false_iff_not] at ha0; omega⟩
  refine kgo ?_; (repeat (first | intro (X:Nat) | intro (z:St) | intro (av:V) | intro (tk:Option Nat) | (intro (K1:Kn _ _ _); (try clear K); rename Kn _ _ _ => K))); conv => whnf
  cases hl0 : leZ ((S.length : Nat) : Int) ((j : Nat) : Int) <;> conv => whnf
  rotate_left
  · refine kgo ?_; (repeat (first | intro (X:Nat) | intro (z:St) | intro (av:V) | intro (tk:Option Nat) | (intro (K1:Kn _ _ _); (try clear K); rename Kn _ _ _ => K))); conv => whnf
    refine ⟨_, _, pup0 mknown_pden _, ?_⟩
    conv => whnf
    refine kgo ?_; (repeat (first | intro (X:Nat) | intro (z:St) | intro (av:V) | intro (tk:Option Nat) | (intro (K1:Kn _ _ _); (try clear K); rename Kn _ _ _ => K))); conv => whnf
    exact K.fin ht hx (.b _) (.refl _)
  have hj : j < S.length := by rw [leZ_eq] at hl0; simp only [decide_eq_false_iff_not] at hl0; omega
  have hlb : (bytesOf S).length = S.length := List.length_map ..
  have hcell : (bytesOf S)[0 + ((j : Nat) : Int).toNat * 1]? = some (bV S[j]) := by simp [bytesOf, hj, bV]
  refine kgo ?_; (repeat (first | intro (X:Nat) | intro (z:St) | intro (av:V) | intro (tk:Option Nat) | (intro (K1:Kn _ _ _); (try clear K); rename Kn _ _ _ => K))); conv => whnf
  refine ⟨rfl, Int.natCast_nonneg _, by omega, ?_⟩
  conv => whnf
  refine kgo ?_; (repeat (first | intro (X:Nat) | intro (z:St) | intro (av:V) | intro (tk:Option Nat) | (intro (K1:Kn _ _ _); (try clear K); rename Kn _ _ _ => K))); conv => whnf
  cases hq : eqZ ((S[j].toNat : Nat) : Int) ((b.toNat : Nat) : Int) <;> conv => whnf
  rotate_left
  · refine kgo ?_; (repeat (first | intro (X:Nat) | intro (z:St) | intro (av:V) | intro (tk:Option Nat) | (intro (K1:Kn _ _ _); (try clear K); rename Kn _ _ _ => K))); conv => whnf
    refine ⟨_, _, pup0 mknown_pden _, ?_⟩
    conv => whnf
    refine kgo ?_; (repeat (first | intro (X:Nat) | intro (z:St) | intro (av:V) | intro (tk:Option Nat) | (intro (K1:Kn _ _ _); (try clear K); rename Kn _ _ _ => K))); conv => whnf
    exact K.fin ht hx (.b _) (.refl _)
  have hne : S[j] ≠ b := fun e => by rw [e, eqZ_eq] at hq; simp at hq
  have hset : setAt (bytesOf S) (0 + j * 1) [bV b] = bytesOf (S.set j b) := by
    rw [show 0 + j * 1 = j by omega]
    exact setAt_set S j b hj
  have hS2 : S.set j b ≠ S := fun e => hne (by have := congrArg (fun l => l[j]?) e; simp [hj] at this; exact this.symm)
  have hl2 : (S.set j b).length = S.length := List.length_set ..
  refine kgo ?_; (repeat (first | intro (X:Nat) | intro (z:St) | intro (av:V) | intro (tk:Option Nat) | (intro (K1:Kn _ _ _); (try clear K); rename Kn _ _ _ => K))); conv => whnf
  refine kst (fun z3 K1 => ?_) (v := bV b) (ho := by simp [hlb]; omega) (hc := hset)
  clear K; rename Kn _ _ _ => K
  generalize S.set j b = T at *
  conv => whnf
  refine kgo ?_; (repeat (first | intro (X:Nat) | intro (z:St) | intro (av:V) | intro (tk:Option Nat) | (intro (K1:Kn _ _ _); (try clear K); rename Kn _ _ _ => K))); conv => whnf
  refine ⟨_, _, b2s_sl (S := T) rfl (K.get .here) hl2, ?_⟩
  conv => whnf
  refine kgo ?_; (repeat (first | intro (X:Nat) | intro (z:St) | intro (av:V) | intro (tk:Option Nat) | (intro (K1:Kn _ _ _); (try clear K); rename Kn _ _ _ => K))); conv => whnf
  obtain ⟨r, hr⟩ : ∃ r, foM (cutA 10 T) ([], [], []) = r := ⟨_, rfl⟩
  obtain ⟨hSh2, hI2⟩ := read_ok T (by omega) hr
  refine ⟨_, _, read_den T (by omega) _ K.x r hr, ?_⟩
  by_cases hA : mayM (psM r) r.2.2 = true ∧ mtxt (psM r) r.2.2 = T
  · rw [if_pos hA]
    conv => whnf
    refine kgo ?_; (repeat (first | intro (X:Nat) | intro (z:St) | intro (av:V) | intro (tk:Option Nat) | (intro (K1:Kn _ _ _); (try clear K); rename Kn _ _ _ => K))); conv => whnf
    have hsame : (decide (psM r = ps) && decide (r.2.2 = fs)) = false := by
      cases h1 : decide (psM r = ps) <;> cases h2 : decide (r.2.2 = fs) <;> simp only [Bool.and_self, Bool.and_false, Bool.false_and]
      exact absurd (by rw [← hA.2, ← hSd, of_decide_eq_true h1, of_decide_eq_true h2]) hS2
    have hm8 : 1000000 ≤ maxLen := by decide
    have hsm := rmsame_den (psM r) ps r.2.2 fs (by have := hSh2.a; omega) (fun p hp => by
      obtain ⟨q, hq⟩ := List.mem_iff_getElem?.1 hp
      obtain ⟨h1, h2, h3⟩ := hSh2.p q p hq
      exact ⟨by omega, fun k hk => by have := h2 k hk; omega, by omega⟩) (by have := hSh2.b; omega)
    rw [hsame] at hsm
    refine ⟨_, _, up0 (rmayM_den _ _ hSh2 _ K.x), ?_⟩
    rw [hA.1]
    conv => whnf
    refine kgo ?_; (repeat (first | intro (X:Nat) | intro (z:St) | intro (av:V) | intro (tk:Option Nat) | (intro (K1:Kn _ _ _); (try clear K); rename Kn _ _ _ => K))); conv => whnf
    rw [K.get (w := true) .here]
    conv => whnf
    refine kgo ?_; (repeat (first | intro (X:Nat) | intro (z:St) | intro (av:V) | intro (tk:Option Nat) | (intro (K1:Kn _ _ _); (try clear K); rename Kn _ _ _ => K))); conv => whnf
    refine ⟨_, _, pup0 hsm _, ?_⟩
    conv => whnf
    refine kgo ?_; (repeat (first | intro (X:Nat) | intro (z:St) | intro (av:V) | intro (tk:Option Nat) | (intro (K1:Kn _ _ _); (try clear K); rename Kn _ _ _ => K))); conv => whnf
    rw [K.get (w := true) .here]
    conv => whnf
    refine kgo ?_; (repeat (first | intro (X:Nat) | intro (z:St) | intro (av:V) | intro (tk:Option Nat) | (intro (K1:Kn _ _ _); (try clear K); rename Kn _ _ _ => K))); conv => whnf
    refine ⟨_, _, up0 (rmtx_den _ _ hSh2 hI2 _ K.x), ?_⟩
    rw [hA.2]
    conv => whnf
    refine kgo ?_; (repeat (first | intro (X:Nat) | intro (z:St) | intro (av:V) | intro (tk:Option Nat) | (intro (K1:Kn _ _ _); (try clear K); rename Kn _ _ _ => K))); conv => whnf
    have hb2 := K.get (w := true) (.there .here)
    refine ⟨_, _, b2s_sl (S := T) rfl hb2 hl2, ?_⟩
    conv => whnf
    refine ⟨stays_one (b2s_sl (S := T) rfl hb2 hl2), ?_⟩
    conv => whnf
    refine kgo ?_; (repeat (first | intro (X:Nat) | intro (z:St) | intro (av:V) | intro (tk:Option Nat) | (intro (K1:Kn _ _ _); (try clear K); rename Kn _ _ _ => K))); conv => whnf
    rw [show (T == T) = true by simp]
    conv => whnf
    refine kgo ?_; (repeat (first | intro (X:Nat) | intro (z:St) | intro (av:V) | intro (tk:Option Nat) | (intro (K1:Kn _ _ _); (try clear K); rename Kn _ _ _ => K))); conv => whnf
    refine ⟨_, _, pup0 mknown_pden _, ?_⟩
    conv => whnf
    refine kgo ?_; (repeat (first | intro (X:Nat) | intro (z:St) | intro (av:V) | intro (tk:Option Nat) | (intro (K1:Kn _ _ _); (try clear K); rename Kn _ _ _ => K))); conv => whnf
    exact K.fin ht hx (.b _) (.refl _)
  · rw [if_neg hA]
    conv => whnf
    refine kgo ?_; (repeat (first | intro (X:Nat) | intro (z:St) | intro (av:V) | intro (tk:Option Nat) | (intro (K1:Kn _ _ _); (try clear K); rename Kn _ _ _ => K))); conv => whnf
    refine ⟨_, _, pup0 mknown_pden _, ?_⟩
    conv => whnf
    refine kgo ?_; (repeat (first | intro (X:Nat) | intro (z:St) | intro (av:V) | intro (tk:Option Nat) | (intro (K1:Kn _ _ _); (try clear K); rename Kn _ _ _ => K))); conv => whnf
    exact K.fin ht hx (.b _) (.refl _)
end Go.Proofs.YtlhopiehnaabgaaGreatDoor
