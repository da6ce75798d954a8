/-
  Contracts: the other road's numbers and processes. No statement stands here.
-/
import Derived.Test.YtlhopiehnaabgaaDoorLE
import Derived.Test.YtlhopiehnaabgaaDoorMpr
set_option linter.all false
namespace Go.Proofs.YtlhopiehnaabgaaDoor
open Go Rf
set_option maxRecDepth 100000
set_option maxHeartbeats 4000000

def takeL (l : List UInt8) : Option (Int × List UInt8) := if l.length < 8 then none else some (numb (l.take 8), l.drop 8)
def takeV : Option (Int × List UInt8) → V
  | none => .tu [.i .i64 0, .ns, .b false]
  | some (n, r) => .tu [.i .i64 n, bsV r, .b true]
theorem nm3' {L : Nat → Prop} {a b c : V} (h1 : Nm L a) (h2 : Nm L b) (h3 : Nm L c) : Nm L (.tu [a, b, c]) := .tu _ (nm3 h1 h2 h3)
theorem takeV_nm {L : Nat → Prop} (x : Option (Int × List UInt8)) : Nm L (takeV x) := by
  cases x with
  | none => exact nm3' (.i _ _) .ns (.b _)
  | some x => exact nm3' (.i _ _) (bsV_nm _) (.b _)
theorem cut_a (l : List UInt8) (a : Nat) : ((l.map bV).take a).drop 0 = (l.take a).map bV := by simp
theorem cut_d (l : List UInt8) (a : Nat) : ((l.map bV).take (l.map bV).length).drop a = (l.drop a).map bV := by rw [List.take_length, List.map_drop]
theorem take_den (l : List UInt8) (hl : l.length ≤ 5000) (s : St) (hx : NoX s) : Den gt0 Tryd.prog 71 [bsV l] s (takeV (takeL l)) s := by
  have hlb : (l.map bV).length = l.length := List.length_map ..
  generalize hB : takeV (takeL l) = B
  have hBn : Nm s.L B := by rw [← hB]; exact takeV_nm _
  refine Den.tidy fun ht => Den.hm gnm0 hF71 ?_
  have K := Kn.init ht.1 hx
  conv => whnf
  refine kgo ?_; (repeat (first | intro (X:Nat) | intro (z:St) | intro (av:V) | intro (tk:Option Nat) | (intro (K1:Kn _ _ _); (try clear K); rename Kn _ _ _ => K))); conv => whnf
  rw [hlb]
  refine brB_iff.2 ⟨fun h => ?_, fun h => ?_⟩ <;> conv => whnf
  · refine kgo ?_; (repeat (first | intro (X:Nat) | intro (z:St) | intro (av:V) | intro (tk:Option Nat) | (intro (K1:Kn _ _ _); (try clear K); rename Kn _ _ _ => K))); conv => whnf
    rw [ltZ_eq] at h; simp only [decide_eq_true_eq] at h
    have hm : B = .tu [.i .i64 0, .ns, .b false] := by rw [← hB, takeL, if_pos (by omega)]; rfl
    subst hm
    exact K.fin ht hx hBn (.refl _)
  · rw [ltZ_eq] at h; simp only [decide_eq_false_iff_not] at h
    refine kgo ?_; (repeat (first | intro (X:Nat) | intro (z:St) | intro (av:V) | intro (tk:Option Nat) | (intro (K1:Kn _ _ _); (try clear K); rename Kn _ _ _ => K))); conv => whnf
    refine kxslc (xs := l.map bV) 0 8 ?_ (by omega) (by omega)
    rw [cut_a]
    conv => whnf
    refine kgo ?_; (repeat (first | intro (X:Nat) | intro (z:St) | intro (av:V) | intro (tk:Option Nat) | (intro (K1:Kn _ _ _); (try clear K); rename Kn _ _ _ => K))); conv => whnf
    refine ⟨_, _, num_den (l.take 8) (by rw [List.length_take]; omega) _, ?_⟩
    conv => whnf
    refine kgo ?_; (repeat (first | intro (X:Nat) | intro (z:St) | intro (av:V) | intro (tk:Option Nat) | (intro (K1:Kn _ _ _); (try clear K); rename Kn _ _ _ => K))); conv => whnf
    refine kxslc (xs := l.map bV) 8 (l.map bV).length ?_ (by omega) (by omega)
    rw [cut_d]
    conv => whnf
    refine kgo ?_; (repeat (first | intro (X:Nat) | intro (z:St) | intro (av:V) | intro (tk:Option Nat) | (intro (K1:Kn _ _ _); (try clear K); rename Kn _ _ _ => K))); conv => whnf
    refine ⟨kstay (xs := l.map bV) 8 (l.map bV).length (cut_d l 8) (by omega) (by omega), ?_⟩
    conv => whnf
    refine kgo ?_; (repeat (first | intro (X:Nat) | intro (z:St) | intro (av:V) | intro (tk:Option Nat) | (intro (K1:Kn _ _ _); (try clear K); rename Kn _ _ _ => K))); conv => whnf
    have hm : B = .tu [.i .i64 (wrapF .i64 (numU (l.take 8) : Nat)), bsV (l.drop 8), .b true] := by rw [← hB, takeL, if_neg (by omega), numb_eq]; rfl
    subst hm
    exact K.fin ht hx hBn (.refl _)
theorem takeL_len {l r : List UInt8} {n : Int} (h : takeL l = some (n, r)) : r.length ≤ l.length := by
  unfold takeL at h; split at h
  · cases h
  · cases h; rw [List.length_drop]; omega
def rvsL : Nat → List UInt8 → List Int × Option (List UInt8)
  | 0, l => ([], some l)
  | n + 1, l => match rvsL n l with
    | (xs, none) => (xs, none)
    | (xs, some r) => match takeL r with
      | none => (xs, none)
      | some (y, r') => (xs ++ [y], some r')
theorem rvsL_none {l : List UInt8} {n : Nat} {xs : List Int} (h : rvsL n l = (xs, none)) : ∀ m, n ≤ m → rvsL m l = (xs, none) := fun m hm => by
  induction m with
  | zero => have : n = 0 := by omega
            subst this; exact h
  | succ m ih =>
    by_cases e : n = m + 1
    · subst e; exact h
    · simp only [rvsL, ih (by omega)]
theorem rvsL_len {l r : List UInt8} : ∀ {n : Nat} {xs : List Int}, rvsL n l = (xs, some r) → xs.length = n ∧ r.length ≤ l.length
  | 0, xs, h => by cases h; exact ⟨rfl, Nat.le_refl _⟩
  | n + 1, xs, h => by
    simp only [rvsL] at h
    split at h
    · cases h
    · rename_i ys q hq
      split at h
      · cases h
      · rename_i y r' ht
        cases h
        have h1 := rvsL_len hq
        have h2 := takeL_len ht
        exact ⟨by simp [h1.1], by omega⟩
def rprL (l : List UInt8) : Pr × Option (List UInt8) := match ofB l with
  | none => (pr0, none)
  | some (v, ks, n) => match rvsL v.toNat (l.drop n) with
    | (xs, none) => (((v, ks), xs, 0), none)
    | (xs, some r) => match takeL r with
      | none => (((v, ks), xs, 0), none)
      | some (y, r') => (((v, ks), xs, y), some r')
def rprV : Pr × Option (List UInt8) → V
  | (p, none) => .tu [prV p, .ns, .b false]
  | (p, some r) => .tu [prV p, bsV r, .b true]
theorem rprV_nm {L : Nat → Prop} (x : Pr × Option (List UInt8)) : Nm L (rprV x) := by
  obtain ⟨p, r⟩ := x
  cases r with
  | none => exact nm3' (prV_nm _) .ns (.b _)
  | some r => exact nm3' (prV_nm _) (bsV_nm _) (.b _)
def EP9 (b : List UInt8) (Z P Q i : Nat) : List V := (bsV b :: .bad :: .p Z 0 :: .ns :: .b false :: .p P 0 :: .p Q 0 :: .bad :: .bad :: .i .i64 (i : Nat) :: List.replicate 47 .bad)
theorem rproc_den (l : List UInt8) (hl : l.length ≤ 5000) (s : St) (hx : NoX s) : Den gt0 Tryd.prog 33 [bsV l] s (rprV (rprL l)) s := by
  have hlb : (l.map bV).length = l.length := List.length_map ..
  generalize hB : rprV (rprL l) = B
  have hBn : Nm s.L B := by rw [← hB]; exact rprV_nm _
  refine Den.tidy fun ht => Den.hm gnm0 hF33 ?_
  have K := Kn.init ht.1 hx
  conv => whnf
  refine kgo ?_; (repeat (first | intro (X:Nat) | intro (z:St) | intro (av:V) | intro (tk:Option Nat) | (intro (K1:Kn _ _ _); (try clear K); rename Kn _ _ _ => K))); conv => whnf
  refine ⟨_, _, rof_den l hl _ K.x, ?_⟩
  cases hof : ofB l with
  | none =>
    conv => whnf
    refine kgo ?_; (repeat (first | intro (X:Nat) | intro (z:St) | intro (av:V) | intro (tk:Option Nat) | (intro (K1:Kn _ _ _); (try clear K); rename Kn _ _ _ => K))); conv => whnf
    have hm : B = .tu [prV pr0, .ns, .b false] := by rw [← hB]; simp only [rprL, hof]; rfl
    subst hm
    exact K.ret [.ag [.i .i64 0, .ns, .ns, .i .i64 0], .ns, .b false] ht hx hBn (.tus _ _ (.cons (.ag _ _ (.cons (.refl _) (.cons (.ns 1) (.cons (.ns 1) (.cons (.refl _) .nil))))) (.cons (.one (.refl _)) (.cons (.one (.refl _)) .nil))))
  | some x =>
    obtain ⟨v, ks, n⟩ := x
    obtain ⟨hv0, hv8, hn, -, -⟩ := ofB_v hof
    obtain ⟨c, rfl⟩ := Int.eq_ofNat_of_zero_le hv0
    conv => whnf
    refine kgo ?_; (repeat (first | intro (X:Nat) | intro (z:St) | intro (av:V) | intro (tk:Option Nat) | (intro (K1:Kn _ _ _); (try clear K); rename Kn _ _ _ => K))); conv => whnf
    rename_i Z _ P0 _ _ _
    revert X; intro Q0 K
    refine kxslc (xs := l.map bV) n (l.map bV).length ?_ (by omega) (by omega)
    rw [cut_d]
    conv => whnf
    refine kgo ?_; (repeat (first | intro (X:Nat) | intro (z:St) | intro (av:V) | intro (tk:Option Nat) | (intro (K1:Kn _ _ _); (try clear K); rename Kn _ _ _ => K))); conv => whnf
    have hvs : ∀ (vv : V) (xs : List Int) (y : Int) (tk : Option Nat) (z : St) (L : List En), Kn s z L → Ke L (.ac 1 vv (xs.map iV) tk) → Vwa (.ag [.i .i64 (c : Int), ksV ks, vv, .i .i64 y]) (prV ((((c : Int), ks), xs, y))) := fun vv xs y tk z L K h => .ag _ _ (.cons (.refl _) (.cons (.refl _) (.cons (K.vw h) (.cons (.refl _) .nil))))
    refine HM.loop gnm0 fun hg => ⟨fun m e z' => (∃ (j : Nat) (b : List UInt8) (xs : List Int) (vv : V) (tk : Option Nat), j ≤ c ∧ m = c + 1 - j ∧ rvsL j (l.drop n) = (xs, some b) ∧ e = EP9 b Z P0 Q0 j ∧ Kn s z' [.ac 1 vv (xs.map iV) tk, .ob true Q0 (.c [.i .i64 (c : Int), ksV ks] 0 (some 38)), .ob true P0 (.c [.i .i64 (c : Int), ksV ks, vv, .i .i64 0] 0 (some 62)), .ob true Z (.c [.i .i64 0, .ns, .ns, .i .i64 0] 0 (some 62))]) ∨
        (∃ (b : List UInt8) (xs : List Int) (vv : V) (tk : Option Nat) (y : Int), m = 0 ∧ rprL l = ((((c : Int), ks), xs, y), some b) ∧ e = EP9 b Z P0 Q0 (c + 1) ∧ Kn s z' [.ac 1 vv (xs.map iV) tk, .ob true Q0 (.c [.i .i64 (c : Int), ksV ks] 0 (some 38)), .ob true P0 (.c [.i .i64 (c : Int), ksV ks, vv, .i .i64 y] 0 (some 62)), .ob true Z (.c [.i .i64 0, .ns, .ns, .i .i64 0] 0 (some 62))]),
      ⟨c + 1, fg [0, 2, 3, 4, 5, 6, 9] _, _, WkM.fg hg, .inl ⟨0, l.drop n, [], .ns, none, Nat.zero_le _, rfl, rfl, rfl, K.acc0 1⟩⟩, ?_⟩
    clear K
    rintro m e z2 (⟨j, b, xs, vv, tk, hj, rfl, hrv, rfl, K⟩ | ⟨b, xs, vv, tk, y, rfl, hrp, rfl, K⟩)
    · obtain ⟨hxl, hbl⟩ := rvsL_len hrv
      rw [List.length_drop] at hbl
      conv => whnf
      refine kgo ?_; (repeat (first | intro (X:Nat) | intro (z:St) | intro (av:V) | intro (tk:Option Nat) | (intro (K1:Kn _ _ _); (try clear K); rename Kn _ _ _ => K))); conv => whnf
      have h1 : leZ (j : Nat) (c : Int) = true := by rw [leZ_eq]; simp; omega
      rw [h1]
      conv => whnf
      refine kgo ?_; (repeat (first | intro (X:Nat) | intro (z:St) | intro (av:V) | intro (tk:Option Nat) | (intro (K1:Kn _ _ _); (try clear K); rename Kn _ _ _ => K))); conv => whnf
      refine ⟨_, _, take_den b (by omega) _ K.x, ?_⟩
      cases htk : takeL b with
      | none =>
        conv => whnf
        refine kgo ?_; (repeat (first | intro (X:Nat) | intro (z:St) | intro (av:V) | intro (tk:Option Nat) | (intro (K1:Kn _ _ _); (try clear K); rename Kn _ _ _ => K))); conv => whnf
        have hrn0 : rvsL (j + 1) (l.drop n) = (xs, none) := by simp only [rvsL, hrv, htk]
        have hrn := rvsL_none hrn0
        have hm : B = .tu [prV ((((c : Int), ks), xs, 0)), .ns, .b false] := by
          rw [← hB]
          by_cases e : j = c
          · subst e; simp only [rprL, hof, Int.toNat_natCast, hrv, htk]; rfl
          · simp only [rprL, hof, Int.toNat_natCast, hrn c (by omega)]; rfl
        subst hm
        exact K.ret [.ag [.i .i64 (c : Int), ksV ks, vv, .i .i64 0], .ns, .b false] ht hx hBn (.tus _ _ (.cons (hvs _ _ _ _ _ _ K .here) (.cons (.one (.refl _)) (.cons (.one (.refl _)) .nil))))
      | some q =>
        obtain ⟨y, r⟩ := q
        have hrl := takeL_len htk
        conv => whnf
        refine kgo ?_; (repeat (first | intro (X:Nat) | intro (z:St) | intro (av:V) | intro (tk:Option Nat) | (intro (K1:Kn _ _ _); (try clear K); rename Kn _ _ _ => K))); conv => whnf
        cases he : eqZ (j : Nat) (c : Int) <;> conv => whnf
        · have he := eqZ_f he
          refine kgo ?_; (repeat (first | intro (X:Nat) | intro (z:St) | intro (av:V) | intro (tk:Option Nat) | (intro (K1:Kn _ _ _); (try clear K); rename Kn _ _ _ => K))); conv => whnf
          intro hg'
          refine ⟨c + 1 - (j + 1), fg [0, 2, 3, 4, 5, 6, 9] _, _, by omega, WkM.fg hg', .inl ⟨j + 1, r, xs ++ [y], av, tk, by omega, rfl, by simp only [rvsL, hrv, htk], rfl, K.cast ?_⟩⟩
          simp [iV]
          rfl
        · have he := eqZ_t he
          have hjc : j = c := by omega
          subst hjc
          refine kgo ?_; (repeat (first | intro (X:Nat) | intro (z:St) | intro (av:V) | intro (tk:Option Nat) | (intro (K1:Kn _ _ _); (try clear K); rename Kn _ _ _ => K))); conv => whnf
          intro hg'
          refine ⟨0, fg [0, 2, 3, 4, 5, 6, 9] _, _, by omega, WkM.fg hg', .inr ⟨r, xs, vv, tk, y, rfl, ?_, rfl, K⟩⟩
          simp only [rprL, hof, Int.toNat_natCast, hrv, htk]
    · have h1 : leZ ((c + 1 : Nat) : Int) (c : Int) = false := by rw [leZ_eq]; simp; omega
      conv => whnf
      refine kgo ?_; (repeat (first | intro (X:Nat) | intro (z:St) | intro (av:V) | intro (tk:Option Nat) | (intro (K1:Kn _ _ _); (try clear K); rename Kn _ _ _ => K))); conv => whnf
      rw [h1]
      conv => whnf
      refine kgo ?_; (repeat (first | intro (X:Nat) | intro (z:St) | intro (av:V) | intro (tk:Option Nat) | (intro (K1:Kn _ _ _); (try clear K); rename Kn _ _ _ => K))); conv => whnf
      have hm : B = .tu [prV ((((c : Int), ks), xs, y)), bsV b, .b true] := by rw [← hB, hrp]; rfl
      subst hm
      exact K.ret [.ag [.i .i64 (c : Int), ksV ks, vv, .i .i64 y], bsV b, .b true] ht hx hBn (.tus _ _ (.cons (hvs _ _ _ _ _ _ K .here) (.cons (.one (.refl _)) (.cons (.one (.refl _)) .nil))))
end Go.Proofs.YtlhopiehnaabgaaDoor
