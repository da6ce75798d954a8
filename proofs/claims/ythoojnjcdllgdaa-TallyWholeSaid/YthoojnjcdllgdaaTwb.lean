/-
  The law's loops. No statement stands here.
-/
import Derived.Test.YthoojnjcdllgdaaTwa
set_option linter.all false
namespace Go.Proofs.Ythoojnjcdllgdaa
open Go Rf TallyP
set_option maxRecDepth 100000
set_option maxHeartbeats 4000000

def nB : Nat → C → C
  | 0, c => c
  | n + 1, c => nB n (sB c)
def ar4 (a b c d : Int) : O := .c [.i .i64 a, .i .i64 b, .i .i64 c, .i .i64 d] 0 (some 47)
def EW (T A B : Nat) (P : List RwP) (G : List RwK) (S : List Rw2) (F : List RwF) : List V := (.bad :: .bad :: .bad :: .bad :: .bad :: .p T 0 :: .p A 0 :: .p B 0 :: .pu 5 (P.map fun x => .ag (csP x)) .u :: .pu 4 (G.map fun x => .ag (csK x)) .u :: .pu 3 (F.map fun x => .ag (csF x)) .u :: .pu 3 (S.map rwV) .u :: List.replicate 140 .bad)
def EWP (T A B : Nat) (P : List RwP) (G : List RwK) (S : List Rw2) (F : List RwF) (i : Nat) : List V := (.bad :: .bad :: .bad :: .bad :: .bad :: .p T 0 :: .p A 0 :: .p B 0 :: .pu 5 (P.map fun x => .ag (csP x)) .u :: .pu 4 (G.map fun x => .ag (csK x)) .u :: .pu 3 (F.map fun x => .ag (csF x)) .u :: .pu 3 (S.map rwV) .u :: .bad :: .i .i64 (i : Nat) :: List.replicate 138 .bad)
theorem wlP {s z : St} {T A B : Nat} {tv : O} {a0 a1 a2 a3 b0 b1 b2 b3 : Int} {Q : XM → List V → St → Prop} (P : List RwP) (G : List RwK) (S : List Rw2) (F : List RwF) (hl : P.length ≤ 100000) (Kk : Kn s z [.ob true B (ar4 0 b1 b2 b3), .ob true A (ar4 0 a1 a2 a3), .ob true T tv])
    (hQ : ∀ e z', fg [5, 6, 7, 8, 9, 10, 11] e = EW T A B P G S F → Kn s z' [.ob true B (ar4 (foldW (fun x : RwP => x.2.2.1) P) b1 b2 b3), .ob true A (ar4 (foldW (fun x : RwP => x.2.1) P) a1 a2 a3), .ob true T tv] → Q .nrm e z') :
    HM gt0 Try.prog s (sA (nB 6 f5.body)) (EW T A B P G S F) z Q := by
  have hll : (P.map fun x => V.ag (csP x)).length = P.length := List.length_map ..
  have K := Kk
  clear Kk
  refine kgo ?_; (repeat (first | intro (X:Nat) | intro (z:St) | intro (av:V) | intro (tk:Option Nat) | (intro (K1:Kn _ _ _); (try clear K); rename Kn _ _ _ => K))); conv => whnf
  refine HM.loop gnm0 fun hg => ⟨fun n e z' => ∃ i : Nat, i ≤ P.length ∧ n = P.length - i ∧ e = EWP T A B P G S F i ∧ Kn s z' [.ob true B (ar4 (foldW (fun x : RwP => x.2.2.1) (P.take i)) b1 b2 b3), .ob true A (ar4 (foldW (fun x : RwP => x.2.1) (P.take i)) a1 a2 a3), .ob true T tv],
    ⟨P.length, fg [5, 6, 7, 8, 9, 10, 11, 13] _, _, WkM.fg hg, 0, Nat.zero_le _, rfl, rfl, K⟩, ?_⟩
  clear K
  rintro n e z1 ⟨i, hi, rfl, rfl, K⟩
  obtain ⟨p, hp⟩ : ∃ p, foldW (fun x : RwP => x.2.1) (P.take i) = p := ⟨_, rfl⟩
  rw [hp] at K
  obtain ⟨q, hq⟩ : ∃ q, foldW (fun x : RwP => x.2.2.1) (P.take i) = q := ⟨_, rfl⟩
  rw [hq] at K
  unfold ar4 at K
  conv => whnf
  refine kgo ?_; (repeat (first | intro (X:Nat) | intro (z:St) | intro (av:V) | intro (tk:Option Nat) | (intro (K1:Kn _ _ _); (try clear K); rename Kn _ _ _ => K))); conv => whnf
  rw [hll]
  refine brL ⟨fun hlt => ?_, fun hge => ?_⟩ <;> conv => whnf
  · have hx : P[i]? = some P[i] := List.getElem?_eq_getElem hlt
    generalize P[i] = x at hx
    have hp1 : foldW (fun x : RwP => x.2.1) (P.take (i + 1)) = wrapF .i64 (p + x.2.1) := by
      unfold foldW at hp ⊢
      rw [List.take_add_one, hx, List.foldl_append, hp]; rfl
    have hq1 : foldW (fun x : RwP => x.2.2.1) (P.take (i + 1)) = wrapF .i64 (q + x.2.2.1) := by
      unfold foldW at hq ⊢
      rw [List.take_add_one, hx, List.foldl_append, hq]; rfl
    refine kgo ?_; (repeat (first | intro (X:Nat) | intro (z:St) | intro (av:V) | intro (tk:Option Nat) | (intro (K1:Kn _ _ _); (try clear K); rename Kn _ _ _ => K))); conv => whnf
    intro hg'
    exact ⟨P.length - (i + 1), fg [5, 6, 7, 8, 9, 10, 11, 13] _, _, by omega, WkM.fg hg', i + 1, hlt, rfl, rfl, by rw [hp1, hq1]; exact K⟩
  · rw [List.take_of_length_le hge] at hp hq
    refine kgo ?_; (repeat (first | intro (X:Nat) | intro (z:St) | intro (av:V) | intro (tk:Option Nat) | (intro (K1:Kn _ _ _); (try clear K); rename Kn _ _ _ => K))); conv => whnf
    exact hQ _ _ rfl (by rw [hp, hq]; exact K)
def EWK (T A B : Nat) (P : List RwP) (G : List RwK) (S : List Rw2) (F : List RwF) (i : Nat) : List V := (.bad :: .bad :: .bad :: .bad :: .bad :: .p T 0 :: .p A 0 :: .p B 0 :: .pu 5 (P.map fun x => .ag (csP x)) .u :: .pu 4 (G.map fun x => .ag (csK x)) .u :: .pu 3 (F.map fun x => .ag (csF x)) .u :: .pu 3 (S.map rwV) .u :: .bad :: .bad :: .i .i64 (i : Nat) :: List.replicate 137 .bad)
theorem wlK {s z : St} {T A B : Nat} {tv : O} {a0 a1 a2 a3 b0 b1 b2 b3 : Int} {Q : XM → List V → St → Prop} (P : List RwP) (G : List RwK) (S : List Rw2) (F : List RwF) (hl : G.length ≤ 100000) (Kk : Kn s z [.ob true B (ar4 b0 0 b2 b3), .ob true A (ar4 a0 0 a2 a3), .ob true T tv])
    (hQ : ∀ e z', fg [5, 6, 7, 8, 9, 10, 11] e = EW T A B P G S F → Kn s z' [.ob true B (ar4 b0 (foldW (fun x : RwK => x.2.2) G) b2 b3), .ob true A (ar4 a0 (foldW (fun x : RwK => x.2.1) G) a2 a3), .ob true T tv] → Q .nrm e z') :
    HM gt0 Try.prog s (sA (nB 7 f5.body)) (EW T A B P G S F) z Q := by
  have hll : (G.map fun x => V.ag (csK x)).length = G.length := List.length_map ..
  have K := Kk
  clear Kk
  refine kgo ?_; (repeat (first | intro (X:Nat) | intro (z:St) | intro (av:V) | intro (tk:Option Nat) | (intro (K1:Kn _ _ _); (try clear K); rename Kn _ _ _ => K))); conv => whnf
  refine HM.loop gnm0 fun hg => ⟨fun n e z' => ∃ i : Nat, i ≤ G.length ∧ n = G.length - i ∧ e = EWK T A B P G S F i ∧ Kn s z' [.ob true B (ar4 b0 (foldW (fun x : RwK => x.2.2) (G.take i)) b2 b3), .ob true A (ar4 a0 (foldW (fun x : RwK => x.2.1) (G.take i)) a2 a3), .ob true T tv],
    ⟨G.length, fg [5, 6, 7, 8, 9, 10, 11, 14] _, _, WkM.fg hg, 0, Nat.zero_le _, rfl, rfl, K⟩, ?_⟩
  clear K
  rintro n e z1 ⟨i, hi, rfl, rfl, K⟩
  obtain ⟨p, hp⟩ : ∃ p, foldW (fun x : RwK => x.2.1) (G.take i) = p := ⟨_, rfl⟩
  rw [hp] at K
  obtain ⟨q, hq⟩ : ∃ q, foldW (fun x : RwK => x.2.2) (G.take i) = q := ⟨_, rfl⟩
  rw [hq] at K
  unfold ar4 at K
  conv => whnf
  refine kgo ?_; (repeat (first | intro (X:Nat) | intro (z:St) | intro (av:V) | intro (tk:Option Nat) | (intro (K1:Kn _ _ _); (try clear K); rename Kn _ _ _ => K))); conv => whnf
  rw [hll]
  refine brL ⟨fun hlt => ?_, fun hge => ?_⟩ <;> conv => whnf
  · have hx : G[i]? = some G[i] := List.getElem?_eq_getElem hlt
    generalize G[i] = x at hx
    have hp1 : foldW (fun x : RwK => x.2.1) (G.take (i + 1)) = wrapF .i64 (p + x.2.1) := by
      unfold foldW at hp ⊢
      rw [List.take_add_one, hx, List.foldl_append, hp]; rfl
    have hq1 : foldW (fun x : RwK => x.2.2) (G.take (i + 1)) = wrapF .i64 (q + x.2.2) := by
      unfold foldW at hq ⊢
      rw [List.take_add_one, hx, List.foldl_append, hq]; rfl
    refine kgo ?_; (repeat (first | intro (X:Nat) | intro (z:St) | intro (av:V) | intro (tk:Option Nat) | (intro (K1:Kn _ _ _); (try clear K); rename Kn _ _ _ => K))); conv => whnf
    intro hg'
    exact ⟨G.length - (i + 1), fg [5, 6, 7, 8, 9, 10, 11, 14] _, _, by omega, WkM.fg hg', i + 1, hlt, rfl, rfl, by rw [hp1, hq1]; exact K⟩
  · rw [List.take_of_length_le hge] at hp hq
    refine kgo ?_; (repeat (first | intro (X:Nat) | intro (z:St) | intro (av:V) | intro (tk:Option Nat) | (intro (K1:Kn _ _ _); (try clear K); rename Kn _ _ _ => K))); conv => whnf
    exact hQ _ _ rfl (by rw [hp, hq]; exact K)
def EWS (T A B : Nat) (P : List RwP) (G : List RwK) (S : List Rw2) (F : List RwF) (i : Nat) : List V := (.bad :: .bad :: .bad :: .bad :: .bad :: .p T 0 :: .p A 0 :: .p B 0 :: .pu 5 (P.map fun x => .ag (csP x)) .u :: .pu 4 (G.map fun x => .ag (csK x)) .u :: .pu 3 (F.map fun x => .ag (csF x)) .u :: .pu 3 (S.map rwV) .u :: .bad :: .bad :: .bad :: .i .i64 (i : Nat) :: List.replicate 136 .bad)
theorem wlS {s z : St} {T A B : Nat} {tv : O} {a0 a1 a2 a3 b0 b1 b2 b3 : Int} {Q : XM → List V → St → Prop} (P : List RwP) (G : List RwK) (S : List Rw2) (F : List RwF) (hl : S.length ≤ 100000) (Kk : Kn s z [.ob true B (ar4 b0 b1 0 b3), .ob true A (ar4 a0 a1 0 a3), .ob true T tv])
    (hQ : ∀ e z', fg [5, 6, 7, 8, 9, 10, 11] e = EW T A B P G S F → Kn s z' [.ob true B (ar4 b0 b1 (foldW (fun x : Rw2 => x.2.2) S) b3), .ob true A (ar4 a0 a1 (foldW (fun x : Rw2 => x.2.1) S) a3), .ob true T tv] → Q .nrm e z') :
    HM gt0 Try.prog s (sA (nB 8 f5.body)) (EW T A B P G S F) z Q := by
  have hll : (S.map rwV).length = S.length := List.length_map ..
  have K := Kk
  clear Kk
  refine kgo ?_; (repeat (first | intro (X:Nat) | intro (z:St) | intro (av:V) | intro (tk:Option Nat) | (intro (K1:Kn _ _ _); (try clear K); rename Kn _ _ _ => K))); conv => whnf
  refine HM.loop gnm0 fun hg => ⟨fun n e z' => ∃ i : Nat, i ≤ S.length ∧ n = S.length - i ∧ e = EWS T A B P G S F i ∧ Kn s z' [.ob true B (ar4 b0 b1 (foldW (fun x : Rw2 => x.2.2) (S.take i)) b3), .ob true A (ar4 a0 a1 (foldW (fun x : Rw2 => x.2.1) (S.take i)) a3), .ob true T tv],
    ⟨S.length, fg [5, 6, 7, 8, 9, 10, 11, 15] _, _, WkM.fg hg, 0, Nat.zero_le _, rfl, rfl, K⟩, ?_⟩
  clear K
  rintro n e z1 ⟨i, hi, rfl, rfl, K⟩
  obtain ⟨p, hp⟩ : ∃ p, foldW (fun x : Rw2 => x.2.1) (S.take i) = p := ⟨_, rfl⟩
  rw [hp] at K
  obtain ⟨q, hq⟩ : ∃ q, foldW (fun x : Rw2 => x.2.2) (S.take i) = q := ⟨_, rfl⟩
  rw [hq] at K
  unfold ar4 at K
  conv => whnf
  refine kgo ?_; (repeat (first | intro (X:Nat) | intro (z:St) | intro (av:V) | intro (tk:Option Nat) | (intro (K1:Kn _ _ _); (try clear K); rename Kn _ _ _ => K))); conv => whnf
  rw [hll]
  refine brL ⟨fun hlt => ?_, fun hge => ?_⟩ <;> conv => whnf
  · have hx : S[i]? = some S[i] := List.getElem?_eq_getElem hlt
    generalize S[i] = x at hx
    have hp1 : foldW (fun x : Rw2 => x.2.1) (S.take (i + 1)) = wrapF .i64 (p + x.2.1) := by
      unfold foldW at hp ⊢
      rw [List.take_add_one, hx, List.foldl_append, hp]; rfl
    have hq1 : foldW (fun x : Rw2 => x.2.2) (S.take (i + 1)) = wrapF .i64 (q + x.2.2) := by
      unfold foldW at hq ⊢
      rw [List.take_add_one, hx, List.foldl_append, hq]; rfl
    refine kgo ?_; (repeat (first | intro (X:Nat) | intro (z:St) | intro (av:V) | intro (tk:Option Nat) | (intro (K1:Kn _ _ _); (try clear K); rename Kn _ _ _ => K))); conv => whnf
    intro hg'
    exact ⟨S.length - (i + 1), fg [5, 6, 7, 8, 9, 10, 11, 15] _, _, by omega, WkM.fg hg', i + 1, hlt, rfl, rfl, by rw [hp1, hq1]; exact K⟩
  · rw [List.take_of_length_le hge] at hp hq
    refine kgo ?_; (repeat (first | intro (X:Nat) | intro (z:St) | intro (av:V) | intro (tk:Option Nat) | (intro (K1:Kn _ _ _); (try clear K); rename Kn _ _ _ => K))); conv => whnf
    exact hQ _ _ rfl (by rw [hp, hq]; exact K)
def EWF (T A B : Nat) (P : List RwP) (G : List RwK) (S : List Rw2) (F : List RwF) (i : Nat) : List V := (.bad :: .bad :: .bad :: .bad :: .bad :: .p T 0 :: .p A 0 :: .p B 0 :: .pu 5 (P.map fun x => .ag (csP x)) .u :: .pu 4 (G.map fun x => .ag (csK x)) .u :: .pu 3 (F.map fun x => .ag (csF x)) .u :: .pu 3 (S.map rwV) .u :: .bad :: .bad :: .bad :: .bad :: .i .i64 (i : Nat) :: List.replicate 135 .bad)
theorem wlF {s z : St} {T A B : Nat} {tv : O} {a0 a1 a2 a3 b0 b1 b2 b3 : Int} {Q : XM → List V → St → Prop} (P : List RwP) (G : List RwK) (S : List Rw2) (F : List RwF) (hl : F.length ≤ 100000) (Kk : Kn s z [.ob true B (ar4 b0 b1 b2 b3), .ob true A (ar4 a0 a1 a2 0), .ob true T tv])
    (hQ : ∀ e z', fg [5, 6, 7, 8, 9, 10, 11] e = EW T A B P G S F → Kn s z' [.ob true B (ar4 b0 b1 b2 b3), .ob true A (ar4 a0 a1 a2 (foldW (fun x : RwF => x.2) F)), .ob true T tv] → Q .nrm e z') :
    HM gt0 Try.prog s (sA (nB 9 f5.body)) (EW T A B P G S F) z Q := by
  have hll : (F.map fun x => V.ag (csF x)).length = F.length := List.length_map ..
  have K := Kk
  clear Kk
  refine kgo ?_; (repeat (first | intro (X:Nat) | intro (z:St) | intro (av:V) | intro (tk:Option Nat) | (intro (K1:Kn _ _ _); (try clear K); rename Kn _ _ _ => K))); conv => whnf
  refine HM.loop gnm0 fun hg => ⟨fun n e z' => ∃ i : Nat, i ≤ F.length ∧ n = F.length - i ∧ e = EWF T A B P G S F i ∧ Kn s z' [.ob true B (ar4 b0 b1 b2 b3), .ob true A (ar4 a0 a1 a2 (foldW (fun x : RwF => x.2) (F.take i))), .ob true T tv],
    ⟨F.length, fg [5, 6, 7, 8, 9, 10, 11, 16] _, _, WkM.fg hg, 0, Nat.zero_le _, rfl, rfl, K⟩, ?_⟩
  clear K
  rintro n e z1 ⟨i, hi, rfl, rfl, K⟩
  obtain ⟨p, hp⟩ : ∃ p, foldW (fun x : RwF => x.2) (F.take i) = p := ⟨_, rfl⟩
  rw [hp] at K
  unfold ar4 at K
  conv => whnf
  refine kgo ?_; (repeat (first | intro (X:Nat) | intro (z:St) | intro (av:V) | intro (tk:Option Nat) | (intro (K1:Kn _ _ _); (try clear K); rename Kn _ _ _ => K))); conv => whnf
  rw [hll]
  refine brL ⟨fun hlt => ?_, fun hge => ?_⟩ <;> conv => whnf
  · have hx : F[i]? = some F[i] := List.getElem?_eq_getElem hlt
    generalize F[i] = x at hx
    have hp1 : foldW (fun x : RwF => x.2) (F.take (i + 1)) = wrapF .i64 (p + x.2) := by
      unfold foldW at hp ⊢
      rw [List.take_add_one, hx, List.foldl_append, hp]; rfl
    refine kgo ?_; (repeat (first | intro (X:Nat) | intro (z:St) | intro (av:V) | intro (tk:Option Nat) | (intro (K1:Kn _ _ _); (try clear K); rename Kn _ _ _ => K))); conv => whnf
    intro hg'
    exact ⟨F.length - (i + 1), fg [5, 6, 7, 8, 9, 10, 11, 16] _, _, by omega, WkM.fg hg', i + 1, hlt, rfl, rfl, by rw [hp1]; exact K⟩
  · rw [List.take_of_length_le hge] at hp
    refine kgo ?_; (repeat (first | intro (X:Nat) | intro (z:St) | intro (av:V) | intro (tk:Option Nat) | (intro (K1:Kn _ _ _); (try clear K); rename Kn _ _ _ => K))); conv => whnf
    exact hQ _ _ rfl (by rw [hp]; exact K)
end Go.Proofs.Ythoojnjcdllgdaa
