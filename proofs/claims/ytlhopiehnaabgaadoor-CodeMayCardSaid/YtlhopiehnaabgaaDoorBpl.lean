/-
  The plain law: a program's bytes are read as that program, whatever stands behind. No statement stands here.
-/
import Derived.Test.YtlhopiehnaabgaaDoorTpl
import Derived.Test.YtlhopiehnaabgaaDoorCby
import Derived.Test.YtlhopiehnaabgaaDoorOfB
set_option linter.all false
namespace Go.Proofs.YtlhopiehnaabgaaDoor
open Go Rf
set_option maxRecDepth 100000
set_option maxHeartbeats 4000000

theorem b8 {m : Nat} : (UInt8.ofNat m).toNat = m % 256 := UInt8.toNat_ofNat'
theorem be8_inj {m n : Nat} (hm : m < 18446744073709551616) (hn : n < 18446744073709551616) (h : be8 m = be8 n) : m = n := by
  unfold be8 at h
  simp only [List.cons.injEq, and_true] at h
  obtain ⟨h0, h1, h2, h3, h4, h5, h6, h7⟩ := h
  replace h0 := congrArg UInt8.toNat h0
  replace h1 := congrArg UInt8.toNat h1
  replace h2 := congrArg UInt8.toNat h2
  replace h3 := congrArg UInt8.toNat h3
  replace h4 := congrArg UInt8.toNat h4
  replace h5 := congrArg UInt8.toNat h5
  replace h6 := congrArg UInt8.toNat h6
  replace h7 := congrArg UInt8.toNat h7
  rw [b8, b8] at h0 h1 h2 h3 h4 h5 h6 h7
  have e6 : m / 256 % 256 = n / 256 % 256 := h6
  have g1 : m % 65536 = n % 65536 := by omega
  have g2 : m % 16777216 = n % 16777216 := by omega
  have g3 : m % 4294967296 = n % 4294967296 := by omega
  have g4 : m % 1099511627776 = n % 1099511627776 := by omega
  have g5 : m % 281474976710656 = n % 281474976710656 := by omega
  have g6 : m % 72057594037927936 = n % 72057594037927936 := by omega
  omega
theorem numb_enc8 {x : Int} (h : i64 x) : numb (enc8 x) = x := by
  obtain ⟨h0, h1⟩ := h
  have e := be8_numU (enc8_len x)
  have hl := numU_lt (enc8 x)
  have e1 : numU (enc8 x) = (x % 18446744073709551616).toNat := be8_inj hl (by omega) e
  rw [numb_eq, e1, wI]
  omega
theorem wd_rng (o : Int) : wd o ≠ [] → 1 ≤ o ∧ o ≤ 17 := by
  refine op_split (p := fun o => wd o ≠ [] → 1 ≤ o ∧ o ≤ 17) (fun n h => (h rfl).elim) (fun n h => (h rfl).elim) (fun h => (h rfl).elim)
    ?_ ?_ ?_ ?_ ?_ ?_ ?_ ?_ ?_ ?_ ?_ ?_ ?_ ?_ ?_ ?_ ?_ o <;>
  exact fun _ => ⟨by decide, by decide⟩
theorem u8_of {n : Int} (h0 : 0 ≤ n) (h1 : n < 256) : (((u8 n).toNat : Nat) : Int) = n := by
  rw [u8, b8]; omega
theorem get_mid {pre post : List UInt8} {b : UInt8} : (pre ++ (b :: post))[pre.length]? = some b := by simp
theorem insP_at {pre post : List UInt8} {x : Int × Int} (hx : InsOk x) : insP (pre ++ (encI x ++ post)) pre.length = some (x, pre.length + (encI x).length) := by
  obtain ⟨h1, h2, h3⟩ := hx
  have hr := wd_rng x.1 h1
  have hu := u8_of (n := x.1) (by omega) (by omega)
  obtain ⟨o, n⟩ := x
  simp only at *
  cases hn : nb o
  · have he : encI (o, n) = [u8 o] := by unfold encI; rw [if_neg (by simp [hn])]
    rw [he, insP, List.singleton_append, get_mid]
    simp only [hu]
    rw [if_neg (by simp [hn]), h3 hn]; rfl
  · have he : encI (o, n) = u8 o :: enc8 n := by unfold encI; rw [if_pos hn]; rfl
    have hl := enc8_len n
    rw [he, insP, List.cons_append, get_mid]
    simp only [hu]
    rw [if_pos hn, if_pos (by simp only [List.length_append, List.length_cons, hl]; omega)]
    rw [show pre ++ u8 o :: (enc8 n ++ post) = (pre ++ [u8 o]) ++ (enc8 n ++ post) by simp, List.drop_left' (by simp), List.take_left' hl, numb_enc8 h2]
    simp only [List.length_cons, hl]
theorem kdI_at {pre post : List UInt8} {k : Kd} (hk : ∀ x ∈ k, InsOk x) : ∀ n : Nat, n ≤ k.length → kdI (pre ++ (k.flatMap encI ++ post)) pre.length n = some (k.take n, pre.length + ((k.take n).flatMap encI).length)
  | 0, _ => by simp [kdI]
  | n + 1, h => by
    have hg : k[n]? = some k[n] := List.getElem?_eq_getElem h
    have hm := hk k[n] (List.getElem_mem ..)
    have hsp : k = k.take n ++ k[n] :: k.drop (n + 1) := by rw [List.getElem_cons_drop, List.take_append_drop]
    generalize k[n] = x at hg hm hsp
    have e : pre ++ (k.flatMap encI ++ post) = (pre ++ (k.take n).flatMap encI) ++ (encI x ++ ((k.drop (n + 1)).flatMap encI ++ post)) := by
      conv => lhs; rw [hsp]
      simp
    rw [kdI, kdI_at hk n (by omega)]
    simp only
    rw [show pre.length + ((k.take n).flatMap encI).length = (pre ++ (k.take n).flatMap encI).length by simp, e, insP_at hm]
    simp only
    rw [List.take_add_one, hg]
    simp
    omega
theorem kindP_at {pre post : List UInt8} {k : Kd} (hk : ∀ x ∈ k, InsOk x) (hl : k.length ≤ 128) : kindP (pre ++ (encK k ++ post)) pre.length = some (k, pre.length + (encK k).length) := by
  have hu : (u8 (k.length : Nat)).toNat = k.length := by rw [u8, b8]; omega
  rw [kindP, encK, List.cons_append, get_mid]
  simp only [hu]
  have := kdI_at (pre := pre ++ [u8 (k.length : Nat)]) (post := post) hk k.length (Nat.le_refl _)
  rw [List.take_length] at this
  rw [show pre ++ u8 (k.length : Nat) :: (k.flatMap encI ++ post) = (pre ++ [u8 (k.length : Nat)]) ++ (k.flatMap encI ++ post) by simp, show pre.length + 1 = (pre ++ [u8 (k.length : Nat)]).length by simp, this]
  simp
  omega
theorem ksI_at {a b : UInt8} {post : List UInt8} {ks : List Kd} (hk : KsOk ks) (hl : ∀ k ∈ ks, k.length ≤ 128) : ∀ n : Nat, n ≤ ks.length → ksI ([a, b] ++ (ks.flatMap encK ++ post)) n = some (ks.take n, 2 + ((ks.take n).flatMap encK).length)
  | 0, _ => by simp [ksI]
  | n + 1, h => by
    have hg : ks[n]? = some ks[n] := List.getElem?_eq_getElem h
    have hm := hk ks[n] (List.getElem_mem ..)
    have hm2 := hl ks[n] (List.getElem_mem ..)
    have hsp : ks = ks.take n ++ ks[n] :: ks.drop (n + 1) := by rw [List.getElem_cons_drop, List.take_append_drop]
    generalize ks[n] = x at hg hm hm2 hsp
    have e : [a, b] ++ (ks.flatMap encK ++ post) = ([a, b] ++ (ks.take n).flatMap encK) ++ (encK x ++ ((ks.drop (n + 1)).flatMap encK ++ post)) := by
      conv => lhs; rw [hsp]
      simp
    rw [ksI, ksI_at hk hl n (by omega)]
    simp only
    rw [show 2 + ((ks.take n).flatMap encK).length = ([a, b] ++ (ks.take n).flatMap encK).length by simp; omega, e, kindP_at hm hm2]
    simp only
    rw [List.take_add_one, hg]
    simp
    omega
theorem ofB_at {v : Int} {ks : List Kd} (post : List UInt8) (hm : mayP v ks = true) (hi : ∀ k ∈ ks, ∀ x ∈ k, i64 x.2) : ofB (encP v ks ++ post) = some (v, ks, (encP v ks).length) := by
  obtain ⟨h8, h128⟩ := mayP_len hm
  have hv : 0 ≤ v ∧ v ≤ 8 := by
    unfold mayP at hm
    simp only [Bool.and_eq_true, Bool.not_eq_true', Bool.or_eq_false_iff, decide_eq_false_iff_not] at hm
    omega
  have hu := u8_of (n := v) hv.1 (by omega)
  have hl : (u8 (ks.length : Nat)).toNat = ks.length := by rw [u8, b8]; omega
  have := ksI_at (a := u8 v) (b := u8 (ks.length : Nat)) (post := post) (ksOk_of hm hi) h128 ks.length (Nat.le_refl _)
  rw [List.take_length] at this
  have e : encP v ks ++ post = [u8 v, u8 (ks.length : Nat)] ++ (ks.flatMap encK ++ post) := by simp [encP]
  have e2 : progP (encP v ks ++ post) = some (v, ks, (encP v ks).length) := by
    rw [e, progP]
    simp only [List.cons_append, List.nil_append, List.getElem?_cons_zero, List.getElem?_cons_succ, hl]
    simp only [List.cons_append, List.nil_append] at this
    rw [this]
    simp only [hu, encP, List.length_cons]
    congr 2
    congr 1
    omega
  rw [ofB, e2]
  simp only
  rw [if_pos hm]
end Go.Proofs.YtlhopiehnaabgaaDoor
