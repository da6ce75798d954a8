/-
  The plain law, ended: what was read, written again, are the bytes that were read. No statement stands here.
-/
import Derived.Test.YtlhopiehnaabgaaDoorMpl2
set_option linter.all false
namespace Go.Proofs.YtlhopiehnaabgaaDoor
open Go Rf

theorem enc8_numb {l : List UInt8} (h : l.length = 8) : enc8 (numb l) = l := by
  have e := numb_u l
  rw [wU] at e
  unfold enc8
  rw [e, Int.toNat_natCast]
  exact be8_numU h
theorem takeL_enc {l r : List UInt8} {n : Int} (h : takeL l = some (n, r)) : enc8 n ++ r = l := by
  unfold takeL at h
  split at h
  · cases h
  · rename_i h1
    cases h
    rw [enc8_numb (by rw [List.length_take]; omega), List.take_append_drop]
theorem rvsL_enc {l r : List UInt8} : ∀ {n : Nat} {xs : List Int}, rvsL n l = (xs, some r) → xs.flatMap enc8 ++ r = l
  | 0, xs, h => by cases h; rfl
  | n + 1, xs, h => by
    simp only [rvsL] at h
    split at h
    · cases h
    · rename_i ys q hq
      split at h
      · cases h
      · rename_i y r' ht
        cases h
        have h1 := rvsL_enc hq
        have h2 := takeL_enc ht
        rw [← h1, ← h2]; simp
theorem rprL_enc {l r : List UInt8} {p : Pr} (h : rprL l = (p, some r)) : encPr p ++ r = l := by
  unfold rprL at h
  cases hof : ofB l with
  | none => rw [hof] at h; cases h
  | some x =>
    obtain ⟨v, ks, n⟩ := x
    rw [hof] at h
    obtain ⟨h1, h2, -, -⟩ := ofB_enc hof
    simp only at h
    cases hr : rvsL v.toNat (l.drop n) with
    | mk xs o =>
      rw [hr] at h
      cases o with
      | none => cases h
      | some q =>
        simp only at h
        have h3 := rvsL_enc hr
        cases ht : takeL q with
        | none => rw [ht] at h; cases h
        | some w =>
          obtain ⟨y, r'⟩ := w
          rw [ht] at h
          cases h
          have h4 := takeL_enc ht
          unfold encPr
          dsimp only
          rw [h1]
          have : l = l.take n ++ l.drop n := (List.take_append_drop n l).symm
          rw [List.append_assoc, List.append_assoc, h4, h3, List.take_append_drop]
theorem rpsL_enc {l r : List UInt8} : ∀ {n : Nat} {ps : List Pr}, rpsL n l = some (ps, r) → ps.flatMap encPr ++ r = l
  | 0, ps, h => by cases h; rfl
  | n + 1, ps, h => by
    simp only [rpsL] at h
    split at h
    · cases h
    · rename_i qs q hq
      split at h
      · cases h
      · rename_i p r' hp
        cases h
        have h1 := rpsL_enc hq
        have h2 := rprL_enc hp
        rw [← h1, ← h2]; simp
theorem evA_enc {b : List UInt8} {i : Nat} (h : 19 + 18 * i ≤ b.length) : encEv (evA b i) = evE b i := by
  have hl : (evE b i).length = 18 := by simp [evE]; omega
  unfold encEv evA
  dsimp only
  generalize evE b i = E at *
  rw [enc8_numb (by rw [List.length_take]; omega), enc8_numb (by rw [List.length_drop]; omega), u8_nat, u8_nat]
  have e8 : E.getD 8 0 = E[8] := by rw [List.getD_eq_getElem?_getD, List.getElem?_eq_getElem (by omega)]; rfl
  have e9 : E.getD 9 0 = E[9] := by rw [List.getD_eq_getElem?_getD, List.getElem?_eq_getElem (by omega)]; rfl
  rw [e8, e9]
  have h8 : E.take 10 = E.take 8 ++ [E[8], E[9]] := by
    have a9 : E.take 10 = E.take 9 ++ [E[9]] := take1 (a := 9) (List.getElem?_eq_getElem (by omega))
    have a8 : E.take 9 = E.take 8 ++ [E[8]] := take1 (a := 8) (List.getElem?_eq_getElem (by omega))
    rw [a9, a8, List.append_assoc]; rfl
  calc E.take 8 ++ ([E[8], E[9]] ++ E.drop 10) = (E.take 8 ++ [E[8], E[9]]) ++ E.drop 10 := by simp
    _ = E := by rw [← h8, List.take_append_drop]
theorem evs_enc {b : List UInt8} : ∀ (n : Nat), 1 + 18 * n ≤ b.length → ((List.range n).map (evA b)).flatMap encEv = (b.drop 1).take (18 * n)
  | 0, _ => rfl
  | n + 1, h => by
    rw [List.range_succ, List.map_append, List.flatMap_append, evs_enc n (by omega)]
    have : (([n].map (evA b)).flatMap encEv) = evE b n := by
      simp only [List.map_cons, List.map_nil, List.flatMap_cons, List.flatMap_nil, List.append_nil]
      exact evA_enc (by omega)
    rw [this]
    have hE : evE b n = ((b.drop 1).drop (18 * n)).take 18 := by
      unfold evE
      rw [List.drop_take, List.drop_drop, show 19 + 18 * n - (1 + 18 * n) = 18 by omega]
    rw [hE, show 18 * (n + 1) = 18 * n + 18 by omega, List.take_add]
theorem rofM_enc {bs : List UInt8} {ps : List Pr} {fs : List Ev} (h : rofM bs = some (ps, fs)) : encM ps fs = bs ∧ ps.length ≤ 255 ∧ fs.length ≤ 255 ∧ ∀ p ∈ ps, p.1.2.length ≤ 255 ∧ (∀ k ∈ p.1.2, k.length ≤ 255) ∧ p.2.1.length ≤ 255 := by
  cases bs with
  | nil => cases h
  | cons x l =>
    simp only [rofM] at h
    cases hr : rpsL x.toNat l with
    | none => rw [hr] at h; cases h
    | some w =>
      obtain ⟨qs, b⟩ := w
      rw [hr] at h
      cases b with
      | nil => cases h
      | cons y t =>
        simp only at h
        by_cases hT : t.length = 18 * y.toNat
        · rw [if_pos hT] at h
          split at h
          · cases h
            obtain ⟨h1, h2, h3⟩ := rpsL_len hr
            have h4 := rpsL_enc hr
            have h5 := evs_enc (b := y :: t) y.toNat (by rw [List.length_cons]; omega)
            have hx := x.toNat_lt
            have hy := y.toNat_lt
            refine ⟨?_, by omega, by simp; omega, h3⟩
            unfold encM
            rw [h1, h5, u8_nat, List.length_map, List.length_range, u8_nat]
            have : ((y :: t).drop 1).take (18 * y.toNat) = t := by
              show t.take _ = t
              rw [← hT, List.take_length]
            rw [this, h4]
          · cases h
        · rw [if_neg hT] at h; cases h
end Go.Proofs.YtlhopiehnaabgaaDoor
