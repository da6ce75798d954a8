/-
  The law's walk: CodeMay answers true. No statement stands here.
-/
import Derived.Test.YtlhopiehnaabgaaDoorBpl
import Derived.Test.YtlhopiehnaabgaaDoorLE
set_option linter.all false
namespace Go.Proofs.YtlhopiehnaabgaaDoor
open Go Rf
set_option maxRecDepth 100000
set_option maxHeartbeats 4000000

theorem hG5 : cF gt1 Tryd.prog (wfa 5) 5 = some f5 := by kernel_rfl
theorem pg_same2 {v : Int} {ks : List Kd} (h : ks.length ≤ 1000) (hk : ∀ k ∈ ks, k.length ≤ 1000) : PDen gt1 Tryd.prog 15 [pgV v ks, pgV v ks] (.b true) := by
  have hm : 1000 ≤ maxLen := by decide
  have := pup0 (gt := gt1) (rsame_den v v ks ks (by omega) fun k h => by have := hk k h; omega)
  rwa [decide_eq_true ⟨rfl, rfl⟩] at this
theorem toB2 (xs : List UInt8) : toBytes (((xs.map bV).map V.cells).flatten) = some xs := by
  induction xs with
  | nil => rfl
  | cons x xs ih =>
    show toBytes (bV x :: ((xs.map bV).map V.cells).flatten) = some (x :: xs)
    generalize ((xs.map bV).map V.cells).flatten = L at *
    simp [toBytes, bV, ih]
theorem b2s_b2 {e : List V} {s : St} {x : Arg} {bs : List UInt8} (hx : x.ev e = bsV bs) : aop e s (.b2s x) = some (.s bs, s) := by
  simp only [aop, hx, bsV, toB2]; rfl
theorem pgT_len {v : Int} {ks : List Kd} (hv : i64 v) (hi : ∀ k ∈ ks, ∀ x ∈ k, i64 x.2) (h8 : ks.length ≤ 8) (h128 : ∀ k ∈ ks, k.length ≤ 128) : (pgT v ks).length ≤ 100000 := by
  have h1 := flat_len (f := kT) (m := 3845) (l := ks) fun k hk => by
    have h2 := flat_len (f := insT) (m := 30) (l := k) fun x hx => insT_len (hi k hk x hx)
    have h3 := h128 k hk
    unfold kT; simp only [List.length_append, List.length_cons, List.length_nil]
    omega
  have h4 := Lib.itoa_length_le v hv.1 hv.2
  unfold pgT; simp only [List.length_append, List.length_cons, List.length_nil]
  omega
theorem pg_lines {v : Int} {ks : List Kd} (h : KsOk ks) (h8 : ks.length ≤ 8) (h128 : ∀ k ∈ ks, k.length ≤ 128) : (cutL 10 (pgT v ks)).length ≤ 4000 := by
  have h1 := flat_len (f := lnK) (m := 129) (l := ks) fun k hk => by
    have h3 := h128 k hk
    unfold lnK; simp only [List.length_cons, List.length_map]
    omega
  rw [pg_cut h]; simp only [List.length_append, List.length_cons, List.length_nil]
  omega
theorem encP_len {v : Int} {ks : List Kd} (h8 : ks.length ≤ 12) (h128 : ∀ k ∈ ks, k.length ≤ 200) : (encP v ks).length ≤ 100000 := by
  have h0 := flat_le (f := encK) (c := 2296) ks (fun y hy => by
    have h3 := h128 y hy
    have h4 := flat_le (f := encI) (c := 9) y (fun w _ => encI_le w)
    simp only [encK, List.length_cons]; omega)
  simp only [encP, List.length_cons]; omega
theorem blaw_den (v : Int) (ks : List Kd) (bh : List UInt8) (hl : ks.length ≤ maxLen) (hv : i64 v) (hi : ∀ k ∈ ks, ∀ x ∈ k, i64 x.2) (s : St) (hx : NoX s) : Den gt1 Tryd.prog 5 [pgV v ks, bsV bh] s (.b true) s := by
  have hlb : (bh.map bV).length = bh.length := List.length_map ..
  refine Den.tidy fun ht => Den.hm gnm1 hG5 ?_
  have K := Kn.init ht.1 hx
  conv => whnf
  refine kgo ?_; (repeat (first | intro (X:Nat) | intro (z:St) | intro (av:V) | intro (tk:Option Nat) | (intro (K1:Kn _ _ _); (try clear K); rename Kn _ _ _ => K))); conv => whnf
  refine ⟨_, _, pup0 (much_den v ks hl) _, ?_⟩
  conv => whnf
  refine kgo ?_; (repeat (first | intro (X:Nat) | intro (z:St) | intro (av:V) | intro (tk:Option Nat) | (intro (K1:Kn _ _ _); (try clear K); rename Kn _ _ _ => K))); conv => whnf
  cases hmu : much ks <;> conv => whnf
  rotate_left
  · refine kgo ?_; (repeat (first | intro (X:Nat) | intro (z:St) | intro (av:V) | intro (tk:Option Nat) | (intro (K1:Kn _ _ _); (try clear K); rename Kn _ _ _ => K))); conv => whnf
    refine ⟨_, _, known_d _, ?_⟩
    conv => whnf
    refine kgo ?_; (repeat (first | intro (X:Nat) | intro (z:St) | intro (av:V) | intro (tk:Option Nat) | (intro (K1:Kn _ _ _); (try clear K); rename Kn _ _ _ => K))); conv => whnf
    exact K.fin ht hx (.b _) (.refl _)
  refine kgo ?_; (repeat (first | intro (X:Nat) | intro (z:St) | intro (av:V) | intro (tk:Option Nat) | (intro (K1:Kn _ _ _); (try clear K); rename Kn _ _ _ => K))); conv => whnf
  rw [hlb]
  refine brB_iff.2 ⟨fun h => ?_, fun h => ?_⟩ <;> conv => whnf
  · refine kgo ?_; (repeat (first | intro (X:Nat) | intro (z:St) | intro (av:V) | intro (tk:Option Nat) | (intro (K1:Kn _ _ _); (try clear K); rename Kn _ _ _ => K))); conv => whnf
    refine ⟨_, _, known_d _, ?_⟩
    conv => whnf
    refine kgo ?_; (repeat (first | intro (X:Nat) | intro (z:St) | intro (av:V) | intro (tk:Option Nat) | (intro (K1:Kn _ _ _); (try clear K); rename Kn _ _ _ => K))); conv => whnf
    exact K.fin ht hx (.b _) (.refl _)
  have hb : bh.length ≤ 100 := by rw [ltZ_eq] at h; simp only [decide_eq_false_iff_not] at h; omega
  obtain ⟨h12, h200⟩ : ks.length ≤ 12 ∧ ∀ k ∈ ks, k.length ≤ 200 := by
    unfold much at hmu
    simp only [Bool.or_eq_false_iff, decide_eq_false_iff_not, List.any_eq_false, decide_eq_true_eq] at hmu
    exact ⟨by omega, fun k hk => by have := hmu.2 k hk; omega⟩
  have hk5 : ∀ k ∈ ks, k.length ≤ 5000 := fun k hk => by have := h200 k hk; omega
  have hk2 : ∀ k ∈ ks, k.length ≤ 255 := fun k hk => by have := h200 k hk; omega
  refine kgo ?_; (repeat (first | intro (X:Nat) | intro (z:St) | intro (av:V) | intro (tk:Option Nat) | (intro (K1:Kn _ _ _); (try clear K); rename Kn _ _ _ => K))); conv => whnf
  refine ⟨_, _, pup0 (rmayL_den v ks (by omega) hk5) _, ?_⟩
  conv => whnf
  refine kgo ?_; (repeat (first | intro (X:Nat) | intro (z:St) | intro (av:V) | intro (tk:Option Nat) | (intro (K1:Kn _ _ _); (try clear K); rename Kn _ _ _ => K))); conv => whnf
  refine ⟨_, _, ctext_den v ks (by omega) hk5 hv hi _ K.x, ?_⟩
  conv => whnf
  refine kgo ?_; (repeat (first | intro (X:Nat) | intro (z:St) | intro (av:V) | intro (tk:Option Nat) | (intro (K1:Kn _ _ _); (try clear K); rename Kn _ _ _ => K))); conv => whnf
  refine ⟨_, _, up0 (cbyt_den v ks (by omega) hk2 _ K.x), ?_⟩
  cases hm : mayP v ks
  · rw [if_neg (by simp), show txt v ks = [] by simp [txt, hm]]
    conv => whnf
    refine kgo ?_; (repeat (first | intro (X:Nat) | intro (z:St) | intro (av:V) | intro (tk:Option Nat) | (intro (K1:Kn _ _ _); (try clear K); rename Kn _ _ _ => K))); conv => whnf
    refine ⟨_, _, up0 (mayL_den v ks (by omega) hk5 _ K.x), ?_⟩
    rw [hm]
    conv => whnf
    refine kgo ?_; (repeat (first | intro (X:Nat) | intro (z:St) | intro (av:V) | intro (tk:Option Nat) | (intro (K1:Kn _ _ _); (try clear K); rename Kn _ _ _ => K))); conv => whnf
    refine ⟨_, _, up0 (rtext_den v ks (by omega) hk5 hv hi _ K.x), ?_⟩
    rw [show txt v ks = [] by simp [txt, hm]]
    conv => whnf
    refine kgo ?_; (repeat (first | intro (X:Nat) | intro (z:St) | intro (av:V) | intro (tk:Option Nat) | (intro (K1:Kn _ _ _); (try clear K); rename Kn _ _ _ => K))); conv => whnf
    refine ⟨_, _, known_d _, ?_⟩
    conv => whnf
    refine kgo ?_; (repeat (first | intro (X:Nat) | intro (z:St) | intro (av:V) | intro (tk:Option Nat) | (intro (K1:Kn _ _ _); (try clear K); rename Kn _ _ _ => K))); conv => whnf
    exact K.fin ht hx (.b _) (.refl _)
  obtain ⟨h8, h128⟩ := mayP_len hm
  have hok := ksOk_of hm hi
  have hpl := pgT_len hv hi h8 h128
  have hpc := pg_lines (v := v) hok h8 h128
  have hel := encP_len (v := v) h12 h200
  have hbl : (encP v ks ++ bh).length ≤ 300000 := by rw [List.length_append]; omega
  rw [if_pos rfl, show txt v ks = pgT v ks by simp [txt, hm]]
  conv => whnf
  refine kgo ?_; (repeat (first | intro (X:Nat) | intro (z:St) | intro (av:V) | intro (tk:Option Nat) | (intro (K1:Kn _ _ _); (try clear K); rename Kn _ _ _ => K))); conv => whnf
  refine ⟨_, _, up0 (mayL_den v ks (by omega) hk5 _ K.x), ?_⟩
  rw [hm]
  conv => whnf
  refine kgo ?_; (repeat (first | intro (X:Nat) | intro (z:St) | intro (av:V) | intro (tk:Option Nat) | (intro (K1:Kn _ _ _); (try clear K); rename Kn _ _ _ => K))); conv => whnf
  refine ⟨_, _, up0 (rtext_den v ks (by omega) hk5 hv hi _ K.x), ?_⟩
  rw [show txt v ks = pgT v ks by simp [txt, hm]]
  conv => whnf
  refine kgo ?_; (repeat (first | intro (X:Nat) | intro (z:St) | intro (av:V) | intro (tk:Option Nat) | (intro (K1:Kn _ _ _); (try clear K); rename Kn _ _ _ => K))); conv => whnf
  rw [show (pgT v ks == pgT v ks) = true from beq_self_eq_true _]
  conv => whnf
  refine kgo ?_; (repeat (first | intro (X:Nat) | intro (z:St) | intro (av:V) | intro (tk:Option Nat) | (intro (K1:Kn _ _ _); (try clear K); rename Kn _ _ _ => K))); conv => whnf
  refine ⟨_, _, up0 (byt_den v ks (by omega) hk2 _ K.x), ?_⟩
  conv => whnf
  refine kgo ?_; (repeat (first | intro (X:Nat) | intro (z:St) | intro (av:V) | intro (tk:Option Nat) | (intro (K1:Kn _ _ _); (try clear K); rename Kn _ _ _ => K))); conv => whnf
  refine ⟨_, _, b2s_b2 (bs := encP v ks) rfl, ?_⟩
  conv => whnf
  refine ⟨stays_one (b2s_b2 (bs := encP v ks) rfl), ?_⟩
  conv => whnf
  refine kgo ?_; (repeat (first | intro (X:Nat) | intro (z:St) | intro (av:V) | intro (tk:Option Nat) | (intro (K1:Kn _ _ _); (try clear K); rename Kn _ _ _ => K))); conv => whnf
  refine ⟨_, _, b2s_b2 (bs := encP v ks) rfl, ?_⟩
  conv => whnf
  refine kgo ?_; (repeat (first | intro (X:Nat) | intro (z:St) | intro (av:V) | intro (tk:Option Nat) | (intro (K1:Kn _ _ _); (try clear K); rename Kn _ _ _ => K))); conv => whnf
  rw [show (encP v ks == encP v ks) = true from beq_self_eq_true _]
  conv => whnf
  refine kgo ?_; (repeat (first | intro (X:Nat) | intro (z:St) | intro (av:V) | intro (tk:Option Nat) | (intro (K1:Kn _ _ _); (try clear K); rename Kn _ _ _ => K))); conv => whnf
  refine ⟨_, _, cof_den (pgT v ks) hpl hpc _ K.x (v, ks) (foA_pgT hv hok), ?_⟩
  rw [if_pos ⟨hm, rfl⟩]
  conv => whnf
  refine kgo ?_; (repeat (first | intro (X:Nat) | intro (z:St) | intro (av:V) | intro (tk:Option Nat) | (intro (K1:Kn _ _ _); (try clear K); rename Kn _ _ _ => K))); conv => whnf
  have hav : Vw1 av (bsV (encP v ks ++ bh)) := by have := K.vw .here; rwa [← List.map_append] at this
  refine ⟨_, _, (pup0 (ofB_den (encP v ks ++ bh) hbl) _).wk (.cons hav .nil), ?_⟩
  rw [ofB_at bh hm hi]
  conv => whnf
  refine kgo ?_; (repeat (first | intro (X:Nat) | intro (z:St) | intro (av:V) | intro (tk:Option Nat) | (intro (K1:Kn _ _ _); (try clear K); rename Kn _ _ _ => K))); conv => whnf
  rw [show eqZ (((encP v ks).length : Nat) : Int) ((((encP v ks).map bV).length : Nat) : Int) = true by rw [eqZ_eq]; simp]
  conv => whnf
  refine kgo ?_; (repeat (first | intro (X:Nat) | intro (z:St) | intro (av:V) | intro (tk:Option Nat) | (intro (K1:Kn _ _ _); (try clear K); rename Kn _ _ _ => K))); conv => whnf
  rw [K.get (w := true) (.there (.there .here))]
  conv => whnf
  refine kgo ?_; (repeat (first | intro (X:Nat) | intro (z:St) | intro (av:V) | intro (tk:Option Nat) | (intro (K1:Kn _ _ _); (try clear K); rename Kn _ _ _ => K))); conv => whnf
  refine ⟨_, _, pg_same2 (by omega) (fun k h => by have := h128 k h; omega) _, ?_⟩
  conv => whnf
  refine kgo ?_; (repeat (first | intro (X:Nat) | intro (z:St) | intro (av:V) | intro (tk:Option Nat) | (intro (K1:Kn _ _ _); (try clear K); rename Kn _ _ _ => K))); conv => whnf
  refine ⟨_, _, pg_same2 (by omega) (fun k h => by have := h128 k h; omega) _, ?_⟩
  conv => whnf
  refine kgo ?_; (repeat (first | intro (X:Nat) | intro (z:St) | intro (av:V) | intro (tk:Option Nat) | (intro (K1:Kn _ _ _); (try clear K); rename Kn _ _ _ => K))); conv => whnf
  refine ⟨_, _, known_d _, ?_⟩
  conv => whnf
  refine kgo ?_; (repeat (first | intro (X:Nat) | intro (z:St) | intro (av:V) | intro (tk:Option Nat) | (intro (K1:Kn _ _ _); (try clear K); rename Kn _ _ _ => K))); conv => whnf
  exact K.fin ht hx (.b _) (.refl _)
end Go.Proofs.YtlhopiehnaabgaaDoor
