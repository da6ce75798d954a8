/-
  Contract: an entry's line, the document's. No statement stands here.
-/
import Derived.Test.YtbcapobkbgckbaaGreatDoorDig
import Derived.Test.YtbcapobkbgckbaaGreatDoorWc
import Derived.Test.YtbcapobkbgckbaaGreatDoorLF
set_option linter.all false
namespace Go.Proofs.YtbcapobkbgckbaaGreatDoor
open Go Rf
set_option maxRecDepth 100000
set_option maxHeartbeats 4000000

theorem hx_len' (l : List UInt8) : (l.flatMap hxB).length = 2 * l.length := by
  induction l with
  | nil => rfl
  | cons x l ih => rw [List.flatMap_cons, List.length_append, ih, List.length_cons]; simp [hxB]; omega
theorem take_snoc_fl {α β : Type} {f : α → List β} {l : List α} {j : Nat} {a : α} (h : l[j]? = some a) : (l.take (j + 1)).flatMap f = (l.take j).flatMap f ++ f a := by
  rw [List.take_add_one, h]; simp
def ltW (e : Ey) (c : UInt8) : List UInt8 := 32 :: (if c = 97 then Lib.itoa e.a else if c = 110 then Lib.itoa e.n else e.b.flatMap hxB)
theorem ltW_all {f : Fm} {e : Ey} (hb : f.b = false → e.b = []) : f.w ++ (whF f).flatMap (ltW e) = lnF f e := by
  obtain ⟨w, a, n, b, l⟩ := f
  cases b
  · have hb' : e.b = [] := hb rfl
    cases a <;> cases n <;> simp [whF, lnF, numF, ltW, hb']
  · cases a <;> cases n <;> simp [whF, lnF, numF, ltW]
theorem quo16 (x : UInt8) : binV .quo (.i .u8 (x.toNat : Nat)) (.i .u8 16) = some (.i .u8 ((x.toNat / 16 : Nat) : Int)) := by
  have hx := x.toNat_lt
  show binI .quo .u8 (x.toNat : Nat) 16 = _
  simp only [binI]
  rw [if_neg (by decide)]
  have e : ((x.toNat : Nat) : Int).tdiv 16 = ((x.toNat / 16 : Nat) : Int) := rfl
  rw [e]
  show some (V.i .u8 (wrapF .u8 _)) = _
  rw [wId8 (by omega) (by omega)]
theorem rem16 (x : UInt8) : binV .rem (.i .u8 (x.toNat : Nat)) (.i .u8 16) = some (.i .u8 ((x.toNat % 16 : Nat) : Int)) := by
  show binI .rem .u8 (x.toNat : Nat) 16 = _
  simp only [binI]
  rw [if_neg (by decide)]; rfl
def hxS : List UInt8 := [48, 49, 50, 51, 52, 53, 54, 55, 56, 57, 97, 98, 99, 100, 101, 102]
theorem hx_at (n : Nat) (h : n < 16) : wrapF .u8 (((n : Nat) : Int) + 1) = ((n + 1 : Nat) : Int) ∧ (hxS.take (n + 1)).drop n = [hxD n] := by
  match n, h with
  | 0, _ => exact ⟨rfl, rfl⟩
  | 1, _ => exact ⟨rfl, rfl⟩
  | 2, _ => exact ⟨rfl, rfl⟩
  | 3, _ => exact ⟨rfl, rfl⟩
  | 4, _ => exact ⟨rfl, rfl⟩
  | 5, _ => exact ⟨rfl, rfl⟩
  | 6, _ => exact ⟨rfl, rfl⟩
  | 7, _ => exact ⟨rfl, rfl⟩
  | 8, _ => exact ⟨rfl, rfl⟩
  | 9, _ => exact ⟨rfl, rfl⟩
  | 10, _ => exact ⟨rfl, rfl⟩
  | 11, _ => exact ⟨rfl, rfl⟩
  | 12, _ => exact ⟨rfl, rfl⟩
  | 13, _ => exact ⟨rfl, rfl⟩
  | 14, _ => exact ⟨rfl, rfl⟩
  | 15, _ => exact ⟨rfl, rfl⟩
  | n + 16, h => omega
theorem slHx {e : List V} {s : St} {y z : Arg} {n : Nat} (h : n < 16) (hy : y.ev e = .i .u8 ((n : Nat) : Int)) (hz : z.ev e = .i .u8 (wrapF .u8 (((n : Nat) : Int) + 1))) : aop e s (.slS (.c (.s hxS)) (some y) (some z)) = some (.s [hxD n], s) := by
  obtain ⟨h1, h2⟩ := hx_at n h
  rw [h1] at hz
  have e0 : (Arg.c (.s hxS)).ev e = .s hxS := rfl
  simp only [aop, e0, Option.map_some, Option.map_none, hy, hz]
  delta slb
  have a1 : n ≤ n + 1 := Nat.le_succ n
  have a2 : n + 1 ≤ hxS.length := h
  simp only [bnd_nat a2, bnd_nat a1, h2]
  simp [bnd_nat, a1, a2, h2]
def ERl (e : Ey) (f : Fm) (t : List UInt8) (i : Nat) : List V := (.bad :: .q (eyV e) 0 :: .bad :: .s t :: .s (whF f) :: .i .i64 (i : Nat) :: List.replicate 72 .bad)
def ERx (e : Ey) (f : Fm) (t : List UInt8) (i j : Nat) : List V := (.bad :: .q (eyV e) 0 :: .bad :: .s t :: .s (whF f) :: .i .i64 (i : Nat) :: .i .i64 (j : Nat) :: List.replicate 71 .bad)
theorem rline_den (e : Ey) (f : Fm) (hf : fmS e.k = some f) (he : EyOk e) (hfb : f.b = false → e.b = []) (hb : e.b.length ≤ 100000) (s : St) (hx : NoX s) : Den gt0 Tryz.prog 20 [eyV e] s (.s (lnF f e ++ [10])) s := by
  have hl : (e.b.map bV).length = e.b.length := List.length_map ..
  obtain ⟨-, -, -, -, hwl, -⟩ := fm_no _ f hf
  have hwh : (whF f).length ≤ 3 := by unfold whF; split <;> split <;> split <;> simp
  have ha21 := Lib.itoa_length_le e.a he.2.1.1 he.2.1.2
  have hn21 := Lib.itoa_length_le e.n he.2.2.1 he.2.2.2
  have hxl := hx_len' e.b
  rw [← ltW_all hfb]
  refine Den.tidy fun ht => Den.hm gnm0 hF20 ?_
  have K := Kn.init ht.1 hx
  conv => whnf
  refine kgo ?_; (repeat (first | intro (X:Nat) | intro (z:St) | intro (av:V) | intro (tk:Option Nat) | (intro (K1:Kn _ _ _); (try clear K); rename Kn _ _ _ => K))); conv => whnf
  refine ⟨_, _, word_den e.k _, ?_⟩
  rw [show woV e.k = .tu [.s f.w, .s (whF f)] by rw [woV, hf]]
  conv => whnf
  refine kgo ?_; (repeat (first | intro (X:Nat) | intro (z:St) | intro (av:V) | intro (tk:Option Nat) | (intro (K1:Kn _ _ _); (try clear K); rename Kn _ _ _ => K))); conv => whnf
  refine HM.loop gnm0 fun hg => ⟨fun m ev z' => ∃ (i : Nat) (t : List UInt8), i ≤ (whF f).length ∧ m = (whF f).length - i ∧ ev = ERl e f t i ∧ t = f.w ++ ((whF f).take i).flatMap (ltW e) ∧ Kn s z' [],
    ⟨(whF f).length, fg [1, 3, 4, 5] _, _, WkM.fg hg, 0, _, Nat.zero_le _, rfl, rfl, by simp, K⟩, ?_⟩
  clear K
  rintro m ev z1 ⟨i, t, hi, rfl, rfl, ht', K⟩
  have htl : t.length ≤ 10 + i * 200100 := by
    have : ∀ l : List UInt8, (l.flatMap (ltW e)).length ≤ l.length * 200100 := fun l => by
      induction l with
      | nil => simp
      | cons c l ih =>
        rw [List.flatMap_cons, List.length_append, List.length_cons]
        have : (ltW e c).length ≤ 200100 := by
          unfold ltW
          simp only [List.length_cons]
          split
          · omega
          · split
            · omega
            · omega
        omega
    have h1 := this ((whF f).take i)
    rw [List.length_take, Nat.min_eq_left hi] at h1
    rw [ht', List.length_append]; omega
  conv => whnf
  refine kgo ?_; (repeat (first | intro (X:Nat) | intro (z:St) | intro (av:V) | intro (tk:Option Nat) | (intro (K1:Kn _ _ _); (try clear K); rename Kn _ _ _ => K))); conv => whnf
  refine brL ⟨fun hlt => ?_, fun hge => ?_⟩ <;> conv => whnf
  · have hci : (whF f)[i]? = some (whF f)[i] := List.getElem?_eq_getElem hlt
    have hst : t ++ ltW e (whF f)[i] = f.w ++ ((whF f).take (i + 1)).flatMap (ltW e) := by rw [take_snoc_fl hci, ht', List.append_assoc]
    generalize (whF f)[i] = c at hci hst
    have hi3 : i < 3 := by omega
    have htl2 : t.length ≤ 500000 := by
      have : i * 200100 ≤ 2 * 200100 := Nat.mul_le_mul_right _ (by omega)
      omega
    refine kgo ?_; (repeat (first | intro (X:Nat) | intro (z:St) | intro (av:V) | intro (tk:Option Nat) | (intro (K1:Kn _ _ _); (try clear K); rename Kn _ _ _ => K))); conv => whnf
    refine ⟨Int.natCast_nonneg _, c, hci, ?_⟩
    conv => whnf
    refine kgo ?_; (repeat (first | intro (X:Nat) | intro (z:St) | intro (av:V) | intro (tk:Option Nat) | (intro (K1:Kn _ _ _); (try clear K); rename Kn _ _ _ => K))); conv => whnf
    by_cases h97 : c = 97
    · subst h97
      rw [show eqZ (((97 : UInt8).toNat : Nat) : Int) 97 = true from rfl]
      conv => whnf
      refine kgo ?_; (repeat (first | intro (X:Nat) | intro (z:St) | intro (av:V) | intro (tk:Option Nat) | (intro (K1:Kn _ _ _); (try clear K); rename Kn _ _ _ => K))); conv => whnf
      refine ⟨_, _, dig_den he.2.1.1 he.2.1.2 _, ?_⟩
      conv => whnf
      refine kgo ?_; (repeat (first | intro (X:Nat) | intro (z:St) | intro (av:V) | intro (tk:Option Nat) | (intro (K1:Kn _ _ _); (try clear K); rename Kn _ _ _ => K))); conv => whnf
      intro hg'
      exact ⟨(whF f).length - (i + 1), fg [1, 3, 4, 5] _, _, by omega, WkM.fg hg', i + 1, _, hlt, rfl, rfl, by rw [← hst]; simp [ltW], K⟩
    rw [show eqZ ((c.toNat : Nat) : Int) 97 = false by
      rw [eqZ_eq]; simp; intro e1; exact h97 (UInt8.toNat_inj.1 (by rw [show (97 : UInt8).toNat = 97 from rfl]; omega))]
    conv => whnf
    refine kgo ?_; (repeat (first | intro (X:Nat) | intro (z:St) | intro (av:V) | intro (tk:Option Nat) | (intro (K1:Kn _ _ _); (try clear K); rename Kn _ _ _ => K))); conv => whnf
    by_cases h110 : c = 110
    · subst h110
      rw [show eqZ (((110 : UInt8).toNat : Nat) : Int) 110 = true from rfl]
      conv => whnf
      refine kgo ?_; (repeat (first | intro (X:Nat) | intro (z:St) | intro (av:V) | intro (tk:Option Nat) | (intro (K1:Kn _ _ _); (try clear K); rename Kn _ _ _ => K))); conv => whnf
      refine ⟨_, _, dig_den he.2.2.1 he.2.2.2 _, ?_⟩
      conv => whnf
      refine kgo ?_; (repeat (first | intro (X:Nat) | intro (z:St) | intro (av:V) | intro (tk:Option Nat) | (intro (K1:Kn _ _ _); (try clear K); rename Kn _ _ _ => K))); conv => whnf
      intro hg'
      exact ⟨(whF f).length - (i + 1), fg [1, 3, 4, 5] _, _, by omega, WkM.fg hg', i + 1, _, hlt, rfl, rfl, by rw [← hst]; simp [ltW], K⟩
    rw [show eqZ ((c.toNat : Nat) : Int) 110 = false by
      rw [eqZ_eq]; simp; intro e1; exact h110 (UInt8.toNat_inj.1 (by rw [show (110 : UInt8).toNat = 110 from rfl]; omega))]
    conv => whnf
    refine kgo ?_; (repeat (first | intro (X:Nat) | intro (z:St) | intro (av:V) | intro (tk:Option Nat) | (intro (K1:Kn _ _ _); (try clear K); rename Kn _ _ _ => K))); conv => whnf
    refine HM.loop gnm0 fun hg => ⟨fun m ev z' => ∃ (j : Nat) (u : List UInt8), j ≤ e.b.length ∧ m = e.b.length - j ∧ ev = ERx e f u i j ∧ u = t ++ [32] ++ (e.b.take j).flatMap hxB ∧ Kn s z' [],
      ⟨e.b.length, fg [1, 3, 4, 5, 6] _, _, WkM.fg hg, 0, _, Nat.zero_le _, rfl, rfl, by simp, K⟩, ?_⟩
    clear K
    rintro m ev z1 ⟨j, u, hj, rfl, rfl, hu, K⟩
    have hul : u.length ≤ 800000 := by
      rw [hu]; simp only [List.length_append, hx_len', List.length_take]; simp; omega
    conv => whnf
    refine kgo ?_; (repeat (first | intro (X:Nat) | intro (z:St) | intro (av:V) | intro (tk:Option Nat) | (intro (K1:Kn _ _ _); (try clear K); rename Kn _ _ _ => K))); conv => whnf
    rw [hl]
    refine brL ⟨fun hlt2 => ?_, fun hge2 => ?_⟩ <;> conv => whnf
    · have hbj : e.b[j]? = some e.b[j] := List.getElem?_eq_getElem hlt2
      have hst2 : u ++ hxB e.b[j] = t ++ [32] ++ (e.b.take (j + 1)).flatMap hxB := by rw [take_snoc_fl hbj, hu, List.append_assoc]
      generalize e.b[j] = x at hbj hst2
      have hx1 := x.toNat_lt
      refine kgo ?_; (repeat (first | intro (X:Nat) | intro (z:St) | intro (av:V) | intro (tk:Option Nat) | (intro (K1:Kn _ _ _); (try clear K); rename Kn _ _ _ => K))); conv => whnf
      refine ⟨_, quo16 x, ?_⟩
      conv => whnf
      refine kgo ?_; (repeat (first | intro (X:Nat) | intro (z:St) | intro (av:V) | intro (tk:Option Nat) | (intro (K1:Kn _ _ _); (try clear K); rename Kn _ _ _ => K))); conv => whnf
      refine ⟨_, quo16 x, ?_⟩
      conv => whnf
      refine kgo ?_; (repeat (first | intro (X:Nat) | intro (z:St) | intro (av:V) | intro (tk:Option Nat) | (intro (K1:Kn _ _ _); (try clear K); rename Kn _ _ _ => K))); conv => whnf
      refine ⟨_, _, slHx (n := x.toNat / 16) (by omega) rfl rfl, ?_⟩
      conv => whnf
      refine kgo ?_; (repeat (first | intro (X:Nat) | intro (z:St) | intro (av:V) | intro (tk:Option Nat) | (intro (K1:Kn _ _ _); (try clear K); rename Kn _ _ _ => K))); conv => whnf
      refine ⟨_, rem16 x, ?_⟩
      conv => whnf
      refine kgo ?_; (repeat (first | intro (X:Nat) | intro (z:St) | intro (av:V) | intro (tk:Option Nat) | (intro (K1:Kn _ _ _); (try clear K); rename Kn _ _ _ => K))); conv => whnf
      refine ⟨_, rem16 x, ?_⟩
      conv => whnf
      refine kgo ?_; (repeat (first | intro (X:Nat) | intro (z:St) | intro (av:V) | intro (tk:Option Nat) | (intro (K1:Kn _ _ _); (try clear K); rename Kn _ _ _ => K))); conv => whnf
      refine ⟨_, _, slHx (n := x.toNat % 16) (by omega) rfl rfl, ?_⟩
      conv => whnf
      refine kgo ?_; (repeat (first | intro (X:Nat) | intro (z:St) | intro (av:V) | intro (tk:Option Nat) | (intro (K1:Kn _ _ _); (try clear K); rename Kn _ _ _ => K))); conv => whnf
      intro hg'
      exact ⟨e.b.length - (j + 1), fg [1, 3, 4, 5, 6] _, _, by omega, WkM.fg hg', j + 1, _, hlt2, rfl, rfl, by rw [← hst2]; simp [hxB], K⟩
    · have hend : u = t ++ ltW e c := by
        rw [hu, List.take_of_length_le hge2, ltW, if_neg h97, if_neg h110]; simp
      refine kgo ?_; (repeat (first | intro (X:Nat) | intro (z:St) | intro (av:V) | intro (tk:Option Nat) | (intro (K1:Kn _ _ _); (try clear K); rename Kn _ _ _ => K))); conv => whnf
      intro hg'
      exact ⟨(whF f).length - (i + 1), fg [1, 3, 4, 5] _, _, by omega, WkM.fg hg', i + 1, _, hlt, rfl, rfl, hend.trans hst, K⟩
  · have hend : t = f.w ++ (whF f).flatMap (ltW e) := by rw [ht', List.take_of_length_le hge]
    have htl2 : t.length ≤ 800000 := by
      have : i * 200100 ≤ 3 * 200100 := Nat.mul_le_mul_right _ (by omega)
      omega
    refine kgo ?_; (repeat (first | intro (X:Nat) | intro (z:St) | intro (av:V) | intro (tk:Option Nat) | (intro (K1:Kn _ _ _); (try clear K); rename Kn _ _ _ => K))); conv => whnf
    rw [← hend]
    exact K.fin ht hx (.s _) (.refl _)
end Go.Proofs.YtbcapobkbgckbaaGreatDoor
