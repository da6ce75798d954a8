/-
  Contracts: bytes read as a model by the other road. No statement stands here.
-/
import Derived.Test.YtlhopiehnaabgaaDoorLE
import Derived.Test.YtlhopiehnaabgaaDoorRmo
import Derived.Test.YtlhopiehnaabgaaDoorMmay
set_option linter.all false
namespace Go.Proofs.YtlhopiehnaabgaaDoor
open Go Rf
set_option maxRecDepth 100000
set_option maxHeartbeats 4000000

def rpsL : Nat → List UInt8 → Option (List Pr × List UInt8)
  | 0, l => some ([], l)
  | n + 1, l => match rpsL n l with
    | none => none
    | some (ps, r) => match rprL r with
      | (_, none) => none
      | (p, some r') => some (ps ++ [p], r')
theorem rpsL_none {l : List UInt8} {n : Nat} (h : rpsL n l = none) : ∀ m, n ≤ m → rpsL m l = none := fun m hm => by
  induction m with
  | zero => have : n = 0 := by omega
            subst this; exact h
  | succ m ih =>
    by_cases e : n = m + 1
    · subst e; exact h
    · simp only [rpsL, ih (by omega)]
theorem rprL_len {l r : List UInt8} {p : Pr} (h : rprL l = (p, some r)) : r.length ≤ l.length ∧ p.1.2.length ≤ 255 ∧ (∀ k ∈ p.1.2, k.length ≤ 255) ∧ p.2.1.length ≤ 255 := by
  unfold rprL at h
  cases hof : ofB l with
  | none => rw [hof] at h; cases h
  | some x =>
    obtain ⟨v, ks, n⟩ := x
    rw [hof] at h
    obtain ⟨hv0, hv8, h3, h4, h5⟩ := ofB_v hof
    simp only at h
    cases hr : rvsL v.toNat (l.drop n) with
    | mk xs o =>
      rw [hr] at h
      cases o with
      | none => cases h
      | some q =>
        simp only at h
        obtain ⟨e1, e2⟩ := rvsL_len hr
        cases ht : takeL q with
        | none => rw [ht] at h; cases h
        | some w =>
          obtain ⟨y, r'⟩ := w
          rw [ht] at h
          cases h
          have := takeL_len ht
          rw [List.length_drop] at e2
          exact ⟨by omega, h4, h5, by show xs.length ≤ 255; omega⟩
theorem rpsL_len {l : List UInt8} : ∀ {n : Nat} {ps : List Pr} {r : List UInt8}, rpsL n l = some (ps, r) → ps.length = n ∧ r.length ≤ l.length ∧ ∀ p ∈ ps, p.1.2.length ≤ 255 ∧ (∀ k ∈ p.1.2, k.length ≤ 255) ∧ p.2.1.length ≤ 255
  | 0, ps, r, h => by cases h; exact ⟨rfl, Nat.le_refl _, fun p hp => by cases hp⟩
  | n + 1, ps, r, h => by
    simp only [rpsL] at h
    split at h
    · cases h
    · rename_i qs q hq
      split at h
      · cases h
      · rename_i p r' hp
        cases h
        have h1 := rpsL_len hq
        have h2 := rprL_len hp
        refine ⟨by simp [h1.1], by omega, fun p' hp' => ?_⟩
        rcases List.mem_append.1 hp' with h3 | h3
        · exact h1.2.2 p' h3
        · simp only [List.mem_singleton] at h3; subst h3; exact h2.2
def evE (b : List UInt8) (i : Nat) : List UInt8 := (b.take (19 + 18 * i)).drop (1 + 18 * i)
def evA (b : List UInt8) (i : Nat) : Ev := (numb ((evE b i).take 8), 0, (i : Nat), (((evE b i).getD 8 0).toNat : Nat), (((evE b i).getD 9 0).toNat : Nat), numb ((evE b i).drop 10))
noncomputable def rofM : List UInt8 → Option (List Pr × List Ev)
  | [] => none
  | x :: l => match rpsL x.toNat l with
    | none => none
    | some (_, []) => none
    | some (ps, y :: t) => if t.length = 18 * y.toNat then (if mayM ps ((List.range y.toNat).map (evA (y :: t))) = true then some (ps, (List.range y.toNat).map (evA (y :: t))) else none) else none
def rofMV : Option (List Pr × List Ev) → V
  | none => .tu [.ag [.ns, .ns], .b false]
  | some (p, f) => .tu [mV p f, .b true]
theorem rofMV_nm {L : Nat → Prop} (x : Option (List Pr × List Ev)) : Nm L (rofMV x) := by
  cases x with
  | none => exact .tu _ (nm2 (.ag _ (nm2 .ns .ns)) (.b _))
  | some x => exact .tu _ (nm2 (mV_nm _ _) (.b _))
def E91 (b : List UInt8) (Z N M c i : Nat) : List V := (bsV b :: .bad :: .p Z 0 :: .b false :: .p N 0 :: .p M 0 :: .i .i64 (c : Nat) :: .i .i64 (i : Nat) :: List.replicate 97 .bad)
def E92 (b : List UInt8) (Z N M i : Nat) : List V := (bsV b :: .bad :: .p Z 0 :: .b false :: .p N 0 :: .p M 0 :: .bad :: .bad :: .bad :: .bad :: .bad :: .i .i64 (i : Nat) :: List.replicate 93 .bad)
theorem wId {n : Int} (h0 : -9223372036854775808 ≤ n) (h1 : n ≤ 9223372036854775807) : wrapF .i64 n = n := by rw [wI]; omega
theorem rofM_den (bs : List UInt8) (hb : bs.length ≤ 5000) (s : St) (hx : NoX s) : Den gt0 Tryd.prog 9 [bsV bs] s (rofMV (rofM bs)) s := by
  generalize hB : rofMV (rofM bs) = B
  have hBn : Nm s.L B := by rw [← hB]; exact rofMV_nm _
  have hno : rofM bs = none → B = .tu [.ag [.ns, .ns], .b false] := fun h => by rw [← hB, h]; rfl
  refine Den.tidy fun ht => Den.hm gnm0 hF9 ?_
  have K := Kn.init ht.1 hx
  cases bs with
  | nil =>
    conv => whnf
    refine kgo ?_; (repeat (first | intro (X:Nat) | intro (z:St) | intro (av:V) | intro (tk:Option Nat) | (intro (K1:Kn _ _ _); (try clear K); rename Kn _ _ _ => K))); conv => whnf
    rw [hno rfl]
    exact K.ret [.ag [.ns, .ns], .b false] ht hx (rofMV_nm none) (.refl _)
  | cons x l =>
    have hl : l.length ≤ 4999 := by simp at hb; omega
    conv => whnf
    refine kgo ?_; (repeat (first | intro (X:Nat) | intro (z:St) | intro (av:V) | intro (tk:Option Nat) | (intro (K1:Kn _ _ _); (try clear K); rename Kn _ _ _ => K))); conv => whnf
    rename_i Z _ N _ _
    revert X; intro M K
    refine ⟨rfl, by decide, _, rfl, ?_⟩
    conv => whnf
    refine kgo ?_; (repeat (first | intro (X:Nat) | intro (z:St) | intro (av:V) | intro (tk:Option Nat) | (intro (K1:Kn _ _ _); (try clear K); rename Kn _ _ _ => K))); conv => whnf
    refine kxslc (xs := (x :: l).map bV) 1 ((x :: l).map bV).length ?_ (by simp) (Nat.le_refl _)
    rw [cut_d]
    conv => whnf
    refine kgo ?_; (repeat (first | intro (X:Nat) | intro (z:St) | intro (av:V) | intro (tk:Option Nat) | (intro (K1:Kn _ _ _); (try clear K); rename Kn _ _ _ => K))); conv => whnf
    rw [wrapU8 x]
    have hc : x.toNat ≤ 255 := by have := x.toNat_lt; omega
    generalize hcx : x.toNat = c at *
    have hof : rofM (x :: l) = match rpsL c l with
      | none => none
      | some (_, []) => none
      | some (ps, y :: t) => if t.length = 18 * y.toNat then (if mayM ps ((List.range y.toNat).map (evA (y :: t))) = true then some (ps, (List.range y.toNat).map (evA (y :: t))) else none) else none := by rw [← hcx]; rfl
    refine HM.loop gnm0 fun hg => ⟨fun m e z' => ∃ (j : Nat) (b : List UInt8) (ps : List Pr) (pv : V) (tk : Option Nat), j ≤ c ∧ m = c - j ∧ rpsL j l = some (ps, b) ∧ e = E91 b Z N M c j ∧ Kn s z' [.ac 4 pv (ps.map prV) tk, .ob true M (.c [pv, .ns] 0 (some 27)), .ob true N (.c [.ns, .ns] 0 (some 27)), .ob true Z (.c [.ns, .ns] 0 (some 27))],
      ⟨c, fg [0, 2, 3, 4, 5, 6, 7] _, _, WkM.fg hg, 0, l, [], .ns, none, Nat.zero_le _, rfl, rfl, rfl, K.acc0 4⟩, ?_⟩
    clear K
    rintro m e z2 ⟨j, b, ps, pv, tk, hj, rfl, hrp, rfl, K⟩
    obtain ⟨hpl, hbl, hps⟩ := rpsL_len hrp
    conv => whnf
    refine kgo ?_; (repeat (first | intro (X:Nat) | intro (z:St) | intro (av:V) | intro (tk:Option Nat) | (intro (K1:Kn _ _ _); (try clear K); rename Kn _ _ _ => K))); conv => whnf
    refine brL ⟨fun hlt => ?_, fun hge => ?_⟩ <;> conv => whnf
    · refine kgo ?_; (repeat (first | intro (X:Nat) | intro (z:St) | intro (av:V) | intro (tk:Option Nat) | (intro (K1:Kn _ _ _); (try clear K); rename Kn _ _ _ => K))); conv => whnf
      refine ⟨_, _, rproc_den b (by omega) _ K.x, ?_⟩
      cases hrb : rprL b with
      | mk p o =>
      cases o with
      | none =>
        conv => whnf
        refine kgo ?_; (repeat (first | intro (X:Nat) | intro (z:St) | intro (av:V) | intro (tk:Option Nat) | (intro (K1:Kn _ _ _); (try clear K); rename Kn _ _ _ => K))); conv => whnf
        have hr1 : rpsL (j + 1) l = none := by simp only [rpsL, hrp, hrb]
        rw [hno (by rw [hof, rpsL_none hr1 c (by omega)])]
        exact K.ret [.ag [.ns, .ns], .b false] ht hx (rofMV_nm none) (.refl _)
      | some r =>
        conv => whnf
        refine kgo ?_; (repeat (first | intro (X:Nat) | intro (z:St) | intro (av:V) | intro (tk:Option Nat) | (intro (K1:Kn _ _ _); (try clear K); rename Kn _ _ _ => K))); conv => whnf
        intro hg'
        refine ⟨c - (j + 1), fg [0, 2, 3, 4, 5, 6, 7] _, _, by omega, WkM.fg hg', j + 1, r, ps ++ [p], av, tk, hlt, rfl, by simp only [rpsL, hrp, hrb], rfl, (K.drop0 rfl).cast ?_⟩
        simp [prV]
        rfl
    have hjc : j = c := by omega
    subst hjc
    rw [hrp] at hof
    cases b with
    | nil =>
      refine kgo ?_; (repeat (first | intro (X:Nat) | intro (z:St) | intro (av:V) | intro (tk:Option Nat) | (intro (K1:Kn _ _ _); (try clear K); rename Kn _ _ _ => K))); conv => whnf
      rw [hno hof]
      exact K.ret [.ag [.ns, .ns], .b false] ht hx (rofMV_nm none) (.refl _)
    | cons y t =>
    have hof : rofM (x :: l) = if t.length = 18 * y.toNat then (if mayM ps ((List.range y.toNat).map (evA (y :: t))) = true then some (ps, (List.range y.toNat).map (evA (y :: t))) else none) else none := hof
    have hy : y.toNat ≤ 255 := by have := y.toNat_lt; omega
    have hyt : t.length + 1 ≤ 4999 := by simp at hbl; omega
    refine kgo ?_; (repeat (first | intro (X:Nat) | intro (z:St) | intro (av:V) | intro (tk:Option Nat) | (intro (K1:Kn _ _ _); (try clear K); rename Kn _ _ _ => K))); conv => whnf
    refine ⟨rfl, by decide, _, rfl, ?_⟩
    conv => whnf
    refine kgo ?_; (repeat (first | intro (X:Nat) | intro (z:St) | intro (av:V) | intro (tk:Option Nat) | (intro (K1:Kn _ _ _); (try clear K); rename Kn _ _ _ => K))); conv => whnf
    have hW : wrapF .i64 (1 + wrapF .i64 (18 * wrapF .i64 ((y.toNat : Nat) : Int))) = ((1 + 18 * y.toNat : Nat) : Int) := by rw [wId (n := ((y.toNat : Nat) : Int)) (by omega) (by omega), wId (n := 18 * ((y.toNat : Nat) : Int)) (by omega) (by omega), wId (by omega) (by omega)]; omega
    rw [hW, List.length_map, List.length_cons]
    by_cases hT : t.length = 18 * y.toNat
    rotate_left
    · have he : eqZ ((t.length + 1 : Nat) : Int) ((1 + 18 * y.toNat : Nat) : Int) = false := by
        cases h : eqZ ((t.length + 1 : Nat) : Int) ((1 + 18 * y.toNat : Nat) : Int)
        · rfl
        · have := eqZ_t h; omega
      rw [he]
      conv => whnf
      refine kgo ?_; (repeat (first | intro (X:Nat) | intro (z:St) | intro (av:V) | intro (tk:Option Nat) | (intro (K1:Kn _ _ _); (try clear K); rename Kn _ _ _ => K))); conv => whnf
      rw [hno (by rw [hof, if_neg hT])]
      exact K.ret [.ag [.ns, .ns], .b false] ht hx (rofMV_nm none) (.refl _)
    have he : eqZ ((t.length + 1 : Nat) : Int) ((1 + 18 * y.toNat : Nat) : Int) = true := by rw [hT, Nat.add_comm]; simp [eqZ_eq]
    rw [he]
    conv => whnf
    refine kgo ?_; (repeat (first | intro (X:Nat) | intro (z:St) | intro (av:V) | intro (tk:Option Nat) | (intro (K1:Kn _ _ _); (try clear K); rename Kn _ _ _ => K))); conv => whnf
    rw [if_pos hT] at hof
    refine HM.loop gnm0 fun hg => ⟨fun m e z' => ∃ (i : Nat) (fv : V) (tk2 : Option Nat), i ≤ y.toNat ∧ m = y.toNat - i ∧ e = E92 (y :: t) Z N M i ∧ Kn s z' [.ac 6 fv (((List.range i).map (evA (y :: t))).map evV) tk2, .ac 4 pv (ps.map prV) tk, .ob true M (.c [pv, fv] 0 (some 27)), .ob true N (.c [.ns, .ns] 0 (some 27)), .ob true Z (.c [.ns, .ns] 0 (some 27))],
      ⟨y.toNat, fg [0, 2, 3, 4, 5, 11] _, _, WkM.fg hg, 0, .ns, none, Nat.zero_le _, rfl, rfl, K.acc0 6⟩, ?_⟩
    clear K
    rintro m e z3 ⟨i, fv, tk2, hi, rfl, rfl, K⟩
    have hfl : ((List.range i).map (evA (y :: t))).length = i := by simp
    have hfS : (List.range (i + 1)).map (evA (y :: t)) = (List.range i).map (evA (y :: t)) ++ [evA (y :: t) i] := by rw [List.range_succ, List.map_append]; rfl
    generalize hfs : (List.range i).map (evA (y :: t)) = fs at *
    conv => whnf
    refine kgo ?_; (repeat (first | intro (X:Nat) | intro (z:St) | intro (av:V) | intro (tk:Option Nat) | (intro (K1:Kn _ _ _); (try clear K); rename Kn _ _ _ => K))); conv => whnf
    refine ⟨rfl, by decide, _, rfl, ?_⟩
    conv => whnf
    refine kgo ?_; (repeat (first | intro (X:Nat) | intro (z:St) | intro (av:V) | intro (tk:Option Nat) | (intro (K1:Kn _ _ _); (try clear K); rename Kn _ _ _ => K))); conv => whnf
    rw [wrapU8 y]
    refine brL ⟨fun hlt => ?_, fun hge => ?_⟩ <;> conv => whnf
    · refine kgo ?_; (repeat (first | intro (X:Nat) | intro (z:St) | intro (av:V) | intro (tk:Option Nat) | (intro (K1:Kn _ _ _); (try clear K); rename Kn _ _ _ => K))); conv => whnf
      have hw1 : wrapF .i64 (1 + wrapF .i64 (18 * ((i : Nat) : Int))) = ((1 + 18 * i : Nat) : Int) := by rw [wId (n := 18 * ((i : Nat) : Int)) (by omega) (by omega), wId (by omega) (by omega)]; omega
      have hw2 : wrapF .i64 (19 + wrapF .i64 (18 * ((i : Nat) : Int))) = ((19 + 18 * i : Nat) : Int) := by rw [wId (n := 18 * ((i : Nat) : Int)) (by omega) (by omega), wId (by omega) (by omega)]; omega
      rw [hw1, hw2]
      refine kxslc (xs := (y :: t).map bV) (1 + 18 * i) (19 + 18 * i) ?_ (by omega) (by simp; omega)
      have hev : (((y :: t).map bV).take (19 + 18 * i)).drop (1 + 18 * i) = (evE (y :: t) i).map bV := by rw [evE, List.map_drop, List.map_take]
      rw [hev]
      have hel : (evE (y :: t) i).length = 18 := by simp [evE]; omega
      generalize hE : evE (y :: t) i = E at *
      have hlE : (E.map bV).length = 18 := by rw [List.length_map]; exact hel
      conv => whnf
      refine kgo ?_; (repeat (first | intro (X:Nat) | intro (z:St) | intro (av:V) | intro (tk:Option Nat) | (intro (K1:Kn _ _ _); (try clear K); rename Kn _ _ _ => K))); conv => whnf
      refine kxslc (xs := E.map bV) 0 8 ?_ (by omega) (by omega)
      rw [cut_a]
      conv => whnf
      refine kgo ?_; (repeat (first | intro (X:Nat) | intro (z:St) | intro (av:V) | intro (tk:Option Nat) | (intro (K1:Kn _ _ _); (try clear K); rename Kn _ _ _ => K))); conv => whnf
      refine ⟨_, _, num_den (E.take 8) (by rw [List.length_take]; omega) _, ?_⟩
      conv => whnf
      refine kgo ?_; (repeat (first | intro (X:Nat) | intro (z:St) | intro (av:V) | intro (tk:Option Nat) | (intro (K1:Kn _ _ _); (try clear K); rename Kn _ _ _ => K))); conv => whnf
      refine kxslc (xs := E.map bV) 10 (E.map bV).length ?_ (by omega) (by omega)
      rw [cut_d]
      conv => whnf
      refine kgo ?_; (repeat (first | intro (X:Nat) | intro (z:St) | intro (av:V) | intro (tk:Option Nat) | (intro (K1:Kn _ _ _); (try clear K); rename Kn _ _ _ => K))); conv => whnf
      refine ⟨kstay (xs := E.map bV) 10 (E.map bV).length (cut_d E 10) (by omega) (by omega), ?_⟩
      conv => whnf
      refine kgo ?_; (repeat (first | intro (X:Nat) | intro (z:St) | intro (av:V) | intro (tk:Option Nat) | (intro (K1:Kn _ _ _); (try clear K); rename Kn _ _ _ => K))); conv => whnf
      refine ⟨_, _, num_den (E.drop 10) (by rw [List.length_drop]; omega) _, ?_⟩
      have h0 : z3.get M = some (.c [pv, fv] 0 (some 27)) := K.get (.there (.there .here))
      conv => whnf
      refine kgo ?_; (repeat (first | intro (X:Nat) | intro (z:St) | intro (av:V) | intro (tk:Option Nat) | (intro (K1:Kn _ _ _); (try clear K); rename Kn _ _ _ => K))); conv => whnf
      have h8 : (E.map bV)[Int.toNat 8]? = some (bV (E.getD 8 0)) := by
        show (E.map bV)[8]? = _
        rw [List.getElem?_map, List.getD_eq_getElem?_getD, List.getElem?_eq_getElem (by omega)]; rfl
      have h9 : (E.map bV)[Int.toNat 9]? = some (bV (E.getD 9 0)) := by
        show (E.map bV)[9]? = _
        rw [List.getElem?_map, List.getD_eq_getElem?_getD, List.getElem?_eq_getElem (by omega)]; rfl
      generalize h8e : E.getD 8 0 = e8 at *
      generalize h9e : E.getD 9 0 = e9 at *
      refine ⟨rfl, by decide, _, h8, ?_⟩
      conv => whnf
      refine kgo ?_; (repeat (first | intro (X:Nat) | intro (z:St) | intro (av:V) | intro (tk:Option Nat) | (intro (K1:Kn _ _ _); (try clear K); rename Kn _ _ _ => K))); conv => whnf
      intro hg'
      have hevA : evA (y :: t) i = (wrapF .i64 (numU (E.take 8) : Nat), 0, ((i : Nat) : Int), wrapF .i64 (e8.toNat : Nat), wrapF .i64 (e9.toNat : Nat), wrapF .i64 (numU (E.drop 10) : Nat)) := by
        rw [evA, hE, h8e, h9e, numb_eq, numb_eq, wrapU8, wrapU8]
      refine ⟨y.toNat - (i + 1), fg [0, 2, 3, 4, 5, 11] _, _, by omega, WkM.fg hg', i + 1, av, tk, hlt, rfl, rfl, K.cast ?_⟩
      rw [hfS, hevA]
      simp only [List.map_append, List.map_cons, List.map_nil]
      rfl
    have hic : i = y.toNat := by omega
    subst hic
    rw [hfs] at hof
    have hsh : ShM ps fs := ⟨by omega, by omega, fun q p hp => hps p (List.mem_of_getElem? hp)⟩
    refine kobw K (.there (.there .here)) (us := [psV ps, fsV fs]) (.cons (K.vw (.there .here)) (.cons (K.vw .here) .nil)) fun z4 K1 => ?_
    clear K; rename Kn _ _ _ => K
    refine kgo ?_; (repeat (first | intro (X:Nat) | intro (z:St) | intro (av:V) | intro (tk:Option Nat) | (intro (K1:Kn _ _ _); (try clear K); rename Kn _ _ _ => K))); conv => whnf
    refine ⟨_, _, rmayM_den ps fs hsh _ K.x, ?_⟩
    cases hmy : mayM ps fs <;> conv => whnf
    · refine kgo ?_; (repeat (first | intro (X:Nat) | intro (z:St) | intro (av:V) | intro (tk:Option Nat) | (intro (K1:Kn _ _ _); (try clear K); rename Kn _ _ _ => K))); conv => whnf
      rw [hno (by rw [hof, if_neg (by rw [hmy]; decide)])]
      exact K.ret [.ag [.ns, .ns], .b false] ht hx (rofMV_nm none) (.refl _)
    · refine kgo ?_; (repeat (first | intro (X:Nat) | intro (z:St) | intro (av:V) | intro (tk:Option Nat) | (intro (K1:Kn _ _ _); (try clear K); rename Kn _ _ _ => K))); conv => whnf
      have hm : B = .tu [mV ps fs, .b true] := by rw [← hB, hof, if_pos hmy]; rfl
      subst hm
      exact K.ret [mV ps fs, .b true] ht hx hBn (.refl _)
end Go.Proofs.YtlhopiehnaabgaaDoor
