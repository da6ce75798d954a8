/-
  Contract: an entry's line is read, the code's way. No statement stands here.
-/
import Derived.Test.YtbcapobkbgckbaaGreatDoorSra
set_option linter.all false
namespace Go.Proofs.YtbcapobkbgckbaaGreatDoor
open Go Rf TallyP
set_option maxRecDepth 100000
set_option maxHeartbeats 4000000

theorem hxP_len : ∀ l : List UInt8, (hxP l).length ≤ l.length
  | [] => Nat.le_refl _
  | [_] => by simp [hxP]
  | a :: b :: t => by
    have := hxP_len t
    simp only [hxP, List.length_cons]; omega
theorem read_den (S : List UInt8) (hS : S.length ≤ 60000) (s : St) (hx : NoX s) : Den gt1 Tryz.prog 22 [.s S] s (rdV S (rdC S)) s := by
  refine Den.tidy fun ht => Den.hm gnm1 hG22 ?_
  have K := Kn.init ht.1 hx
  conv => whnf
  refine kgo ?_; (repeat (first | intro (X:Nat) | intro (z:St) | intro (av:V) | intro (tk:Option Nat) | (intro (K1:Kn _ _ _); (try clear K); rename Kn _ _ _ => K))); conv => whnf
  refine ⟨_, _, split_d (c := 32) (l := S) (by omega) _ K.x, ?_⟩
  conv => whnf
  refine kgo ?_; (repeat (first | intro (X:Nat) | intro (z:St) | intro (av:V) | intro (tk:Option Nat) | (intro (K1:Kn _ _ _); (try clear K); rename Kn _ _ _ => K))); conv => whnf
  revert X; intro X K
  have hws : ∀ w ∈ cutL 32 S, w.length ≤ 60000 := fun w hw => Nat.le_trans (cutL_el 32 S w hw) hS
  have hwl : (cutL 32 S).length ≤ 60001 := Nat.le_trans (cutL_len 32 S) (by omega)
  have hrd : rdC S = (ksL 1).findSome? (rdK S (cutL 32 S)) := rfl
  obtain ⟨w0, wr, hcut⟩ : ∃ w0 wr, cutL 32 S = w0 :: wr := by
    cases h : cutL 32 S with
    | nil => exact (cutL_ne 32 S h).elim
    | cons a b => exact ⟨a, b, rfl⟩
  rw [hcut] at hrd hws hwl ⊢
  refine HM.loop gnm1 fun hg => ⟨fun m ev z' => ∃ k : Nat, 1 ≤ k ∧ m = 10 - k ∧ k ≤ 10 ∧ ev = ERd S X (w0 :: wr) k ∧ rdC S = (ksL k).findSome? (rdK S (w0 :: wr)) ∧ Kn s z' [.ob true X (.c [.i .i64 0, .i .i64 0, .i .i64 0, .ns] 0 (some 26))],
    ⟨9, fg [0, 2, 3, 4, 5] _, _, WkM.fg hg, 1, Nat.le_refl _, rfl, by decide, rfl, hrd, K⟩, ?_⟩
  clear K hrd
  rintro m ev z1 ⟨k, hk1, rfl, hk10, rfl, hrd, K⟩
  conv => whnf
  refine kgo ?_; (repeat (first | intro (X:Nat) | intro (z:St) | intro (av:V) | intro (tk:Option Nat) | (intro (K1:Kn _ _ _); (try clear K); rename Kn _ _ _ => K))); conv => whnf
  by_cases hk : k ≤ 9
  · rw [show leZ ((k : Nat) : Int) 9 = true by rw [leZ_eq]; exact decide_eq_true (by omega)]
    conv => whnf
    refine kgo ?_; (repeat (first | intro (X:Nat) | intro (z:St) | intro (av:V) | intro (tk:Option Nat) | (intro (K1:Kn _ _ _); (try clear K); rename Kn _ _ _ => K))); conv => whnf
    refine ⟨_, _, up0 (forms_den _ K.x), ?_⟩
    have K1 := K.newX (.mp (mEs iE fmE fmsL 0) 9)
    clear K; rename Kn _ _ _ => K
    generalize z1.new (.x (.mp (mEs iE fmE fmsL 0) 9)) = z2 at K ⊢
    generalize z1.n = M at K ⊢
    conv => whnf
    refine kgo ?_; (repeat (first | intro (X:Nat) | intro (z:St) | intro (av:V) | intro (tk:Option Nat) | (intro (K1:Kn _ _ _); (try clear K); rename Kn _ _ _ => K))); conv => whnf
    have hM := K.get (w := true) .here
    rw [aym_look0 (k := ((k : Nat) : Int)) (l := fmsL) enc_i hM]
    rotate_left
    · rfl
    · rfl
    obtain ⟨f, d, hf, hlk⟩ : ∃ f d, fmS ((k : Nat) : Int) = some f ∧ lkk ((k : Nat) : Int) fmsL = some (f, d) := by
      rcases lkk_fms ((k : Nat) : Int) with ⟨h, -⟩ | h
      · rcases fmS_cases ((k : Nat) : Int) with ⟨h', -⟩ | ⟨-, h'⟩ | ⟨-, h'⟩ | ⟨-, h'⟩ | ⟨-, h'⟩ | ⟨-, h'⟩ | ⟨-, h'⟩ | ⟨-, h'⟩ | ⟨-, h'⟩ | ⟨-, h'⟩
        · omega
        all_goals (rw [h'] at h; cases h)
      · exact h
    rw [hlk]
    clear hM
    conv => whnf
    repeat ((first | refine qe ?_ | refine q6 ?_ | refine de ?_ | refine d6 ?_ | refine HM.seq ?_ | refine mo ?_ | refine HO.nil ?_ | refine HD.nil ?_ | refine q3 ?_ | refine d3 ?_ | (refine kappx (fun av z tk K1 => ?_); clear K; rename Kn _ _ _ => K) | refine k1 ?_ | (refine ka (fun X z K1 => ?_); clear K; rename Kn _ _ _ => K) | (refine kst (fun z K1 => ?_); clear K; rename Kn _ _ _ => K) | refine kinc ?_ | refine kbsl2 ?_ | refine q9 ?_ | refine kdq1 ?_ | refine kb0 ?_ | refine kd1 ?_ | refine qk ?_ | refine dk ?_ | refine HM.blk ?_ | refine HM.cond ?_ | refine HM.skip ?_ | refine HM.exit ?_ | refine HM.ret ?_); conv => whnf)
    revert X; intro F K
    refine killK gnm1 K (.there .here) fun z K1 => ?_
    clear K; rename Kn _ _ _ => K
    conv => whnf
    refine kgo ?_; (repeat (first | intro (X:Nat) | intro (z:St) | intro (av:V) | intro (tk:Option Nat) | (intro (K1:Kn _ _ _); (try clear K); rename Kn _ _ _ => K))); conv => whnf
    refine ⟨rfl, Int.le_refl _, .s w0, rfl, ?_⟩
    conv => whnf
    refine kgo ?_; (repeat (first | intro (X:Nat) | intro (z:St) | intro (av:V) | intro (tk:Option Nat) | (intro (K1:Kn _ _ _); (try clear K); rename Kn _ _ _ => K))); conv => whnf
    rw [ksL_cons (by omega), List.findSome?_cons] at hrd
    have hrk : rdK S (w0 :: wr) ((k : Nat) : Int) = if f.w = w0 ∧ mayF f (prC f ((k : Nat) : Int) (w0 :: wr)) = true ∧ lnF f (prC f ((k : Nat) : Int) (w0 :: wr)) = S then some (prC f ((k : Nat) : Int) (w0 :: wr)) else none := by
      unfold rdK; rw [hf]; rfl
    rw [hrk] at hrd
    clear hrk
    by_cases hw : f.w = w0
    rotate_left
    · rw [if_neg fun h => hw h.1] at hrd
      rw [show (f.w == w0) = false from beq_eq_false_iff_ne.2 hw]
      conv => whnf
      refine kgo ?_; (repeat (first | intro (X:Nat) | intro (z:St) | intro (av:V) | intro (tk:Option Nat) | (intro (K1:Kn _ _ _); (try clear K); rename Kn _ _ _ => K))); conv => whnf
      intro hg'
      exact ⟨10 - (k + 1), fg [0, 2, 3, 4, 5] _, _, by omega, WkM.fg hg', k + 1, by omega, rfl, by omega, rfl, hrd, K.drop0 rfl⟩
    rw [show (f.w == w0) = true from beq_iff_eq.2 hw]
    conv => whnf
    refine kgo ?_; (repeat (first | intro (X:Nat) | intro (z:St) | intro (av:V) | intro (tk:Option Nat) | (intro (K1:Kn _ _ _); (try clear K); rename Kn _ _ _ => K))); conv => whnf
    have hwr : wr.length ≤ 60000 := by simpa using hwl
    have hwrs : ∀ w ∈ wr, w.length ≤ 60000 := fun w h => hws w (List.mem_cons_of_mem _ h)
    revert X; intro E K
    have hrow : RowOk false 1 [V.s [], V.s []] := row_map (f := V.s) (l := [[], []]) (fun _ => rfl)
    refine ⟨_, _, aop_slcx rfl, ?_⟩
    conv => whnf
    refine kgo ?_; (repeat (first | intro (X:Nat) | intro (z:St) | intro (av:V) | intro (tk:Option Nat) | (intro (K1:Kn _ _ _); (try clear K); rename Kn _ _ _ => K))); conv => whnf
    obtain ⟨R, hR⟩ : ∃ R, wr ++ [[], []] = R := ⟨_, rfl⟩
    obtain ⟨r0, r1, R2, hR2⟩ : ∃ r0 r1 R2, R = r0 :: r1 :: R2 := by
      rw [← hR]
      match wr with
      | [] => exact ⟨_, _, _, rfl⟩
      | [a] => exact ⟨_, _, _, rfl⟩
      | a :: b :: c => exact ⟨_, _, _, rfl⟩
    have hRl : ∀ w ∈ R, w.length ≤ 60000 := fun w h => by
      rw [← hR] at h
      rcases List.mem_append.1 h with h | h
      · exact hwrs w h
      · simp at h; subst h; simp
    rw [show wr.map V.s ++ [V.s [], V.s []] = (r0 :: r1 :: R2).map V.s by rw [← hR2, ← hR]; simp] at K
    have hr0 : r0.length ≤ 60000 := hRl r0 (by rw [hR2]; simp)
    have hr1 : r1.length ≤ 60000 := hRl r1 (by rw [hR2]; simp)
    replace K := K.cast (L' := [.ac 1 av ((r0 :: r1 :: R2).map V.s) tk, .ob true E (.c [.i .i64 (k : Nat), .i .i64 0, .i .i64 0, .ns] 0 (some 26)), .ob true F (.c [.s f.w, .b f.a, .b f.n, .b f.b, .i .i64 f.l, d] 0 (some 41)), .ob true X (.c [.i .i64 0, .i .i64 0, .i .i64 0, .ns] 0 (some 26))]) rfl
    cases hfa : f.a <;> conv => whnf
    · refine kvw (t := 8) nthx ?_ K .here
      replace K := K.drop0 rfl
      conv => whnf
      refine kgo ?_; (repeat (first | intro (X:Nat) | intro (z:St) | intro (av:V) | intro (tk:Option Nat) | (intro (K1:Kn _ _ _); (try clear K); rename Kn _ _ _ => K))); conv => whnf
      cases hfn : f.n <;> conv => whnf
      · refine kgo ?_; (repeat (first | intro (X:Nat) | intro (z:St) | intro (av:V) | intro (tk:Option Nat) | (intro (K1:Kn _ _ _); (try clear K); rename Kn _ _ _ => K))); conv => whnf
        refine ⟨rfl, Int.le_refl _, .s r0, rfl, ?_⟩
        conv => whnf
        refine kgo ?_; (repeat (first | intro (X:Nat) | intro (z:St) | intro (av:V) | intro (tk:Option Nat) | (intro (K1:Kn _ _ _); (try clear K); rename Kn _ _ _ => K))); conv => whnf
        have K1 := K.acc0 1
        clear K; rename Kn _ _ _ => K
        refine HM.fgt gnm1 [0, 2, 3, 4, 5, 6, 7, 9] fun _ => ?_
        refine tailH (S := S) (q := r0) (X := X) (k := k) (F := F) (E := E) (ws := w0 :: wr) (f := f) (d := d) (A := 0) (N := 0) hr0 K fun z' bv tk K => ?_
        obtain ⟨e, hee⟩ : ∃ e : Ey, e = ⟨(k : Nat), 0, 0, if f.b = true then hxP r0 else []⟩ := ⟨_, rfl⟩
        have hpr : prC f ((k : Nat) : Int) (w0 :: wr) = e := by
          rw [hee]
          unfold prC restC
          rw [show (w0 :: wr).tail ++ [[], []] = r0 :: r1 :: R2 by rw [← hR2, ← hR]; rfl, hfa, hfn]
          rfl
        have hkk : e.k = (k : Nat) := by rw [hee]
        have hfe : fmS e.k = some f := by rw [hkk]; exact hf
        have heok : EyOk e := hpr ▸ prC_ok ⟨by omega, by omega⟩ (w0 :: wr)
        have hbl : e.b.length ≤ 100000 := by
          rw [hee]
          show (if f.b = true then hxP r0 else []).length ≤ 100000
          split
          · exact Nat.le_trans (hxP_len r0) (Nat.le_trans hr0 (by decide))
          · decide
        rw [hpr] at hrd
        refine aft (e := e) (f := f) (d := d) (bv := bv) (tk := tk) hS (K.cast (by rw [hee])) hfe heok hbl (fun hno e' z3 he' K3 => ?_) (fun hmf hln e' z3 h2 h3 hvw K3 => ?_)
        · rw [if_neg fun h => hno h.2] at hrd
          conv => whnf
          refine HM.fgt gnm1 [0, 2, 3, 4, 5] fun _ => ?_
          rw [he']
          clear K; rename Kn _ _ _ => K
          conv => whnf
          refine kgo ?_; (repeat (first | intro (X:Nat) | intro (z:St) | intro (av:V) | intro (tk:Option Nat) | (intro (K1:Kn _ _ _); (try clear K); rename Kn _ _ _ => K))); conv => whnf
          intro hg'
          exact ⟨10 - (k + 1), fg [0, 2, 3, 4, 5] _, _, by omega, WkM.fg hg', k + 1, by omega, rfl, by omega, rfl, hrd, K⟩
        · rw [if_pos ⟨hw, hmf, hln⟩] at hrd
          rw [hrd]
          show finM s [Rs.cn 2 4, Rs.t 3] _ _ .ret e' z3
          exact K3.ret [.ag [.i .i64 e.k, .i .i64 e.a, .i .i64 e.n, bv], .ni] ht hx (.tu _ (nm2 (eyV_nm e) .ni)) (.tus _ _ (.cons hvw (.cons (.one (.refl _)) .nil))) rfl (rsC K3 h2 .here rfl (rsT h3 rsN))
      · refine kgo ?_; (repeat (first | intro (X:Nat) | intro (z:St) | intro (av:V) | intro (tk:Option Nat) | (intro (K1:Kn _ _ _); (try clear K); rename Kn _ _ _ => K))); conv => whnf
        refine ⟨rfl, Int.le_refl _, .s r0, rfl, ?_⟩
        conv => whnf
        refine kgo ?_; (repeat (first | intro (X:Nat) | intro (z:St) | intro (av:V) | intro (tk:Option Nat) | (intro (K1:Kn _ _ _); (try clear K); rename Kn _ _ _ => K))); conv => whnf
        refine ⟨_, _, parse_d (l := r0) (Nat.le_trans hr0 (by decide)) _, ?_⟩
        conv => whnf
        refine kgo ?_; (repeat (first | intro (X:Nat) | intro (z:St) | intro (av:V) | intro (tk:Option Nat) | (intro (K1:Kn _ _ _); (try clear K); rename Kn _ _ _ => K))); conv => whnf
        refine ⟨rfl, Int.le_refl _, .s r0, rfl, ?_⟩
        conv => whnf
        refine kgo ?_; (repeat (first | intro (X:Nat) | intro (z:St) | intro (av:V) | intro (tk:Option Nat) | (intro (K1:Kn _ _ _); (try clear K); rename Kn _ _ _ => K))); conv => whnf
        have K1 := K.acc0 1
        clear K; rename Kn _ _ _ => K
        refine HM.fgt gnm1 [0, 2, 3, 4, 5, 6, 7, 9] fun _ => ?_
        refine tailH (S := S) (q := r0) (X := X) (k := k) (F := F) (E := E) (ws := w0 :: wr) (f := f) (d := d) (A := 0) (N := (parseV r0)) hr0 K fun z' bv tk K => ?_
        obtain ⟨e, hee⟩ : ∃ e : Ey, e = ⟨(k : Nat), 0, (parseV r0), if f.b = true then hxP r0 else []⟩ := ⟨_, rfl⟩
        have hpr : prC f ((k : Nat) : Int) (w0 :: wr) = e := by
          rw [hee]
          unfold prC restC
          rw [show (w0 :: wr).tail ++ [[], []] = r0 :: r1 :: R2 by rw [← hR2, ← hR]; rfl, hfa, hfn]
          rfl
        have hkk : e.k = (k : Nat) := by rw [hee]
        have hfe : fmS e.k = some f := by rw [hkk]; exact hf
        have heok : EyOk e := hpr ▸ prC_ok ⟨by omega, by omega⟩ (w0 :: wr)
        have hbl : e.b.length ≤ 100000 := by
          rw [hee]
          show (if f.b = true then hxP r0 else []).length ≤ 100000
          split
          · exact Nat.le_trans (hxP_len r0) (Nat.le_trans hr0 (by decide))
          · decide
        rw [hpr] at hrd
        refine aft (e := e) (f := f) (d := d) (bv := bv) (tk := tk) hS (K.cast (by rw [hee])) hfe heok hbl (fun hno e' z3 he' K3 => ?_) (fun hmf hln e' z3 h2 h3 hvw K3 => ?_)
        · rw [if_neg fun h => hno h.2] at hrd
          conv => whnf
          refine HM.fgt gnm1 [0, 2, 3, 4, 5] fun _ => ?_
          rw [he']
          clear K; rename Kn _ _ _ => K
          conv => whnf
          refine kgo ?_; (repeat (first | intro (X:Nat) | intro (z:St) | intro (av:V) | intro (tk:Option Nat) | (intro (K1:Kn _ _ _); (try clear K); rename Kn _ _ _ => K))); conv => whnf
          intro hg'
          exact ⟨10 - (k + 1), fg [0, 2, 3, 4, 5] _, _, by omega, WkM.fg hg', k + 1, by omega, rfl, by omega, rfl, hrd, K⟩
        · rw [if_pos ⟨hw, hmf, hln⟩] at hrd
          rw [hrd]
          show finM s [Rs.cn 2 4, Rs.t 3] _ _ .ret e' z3
          exact K3.ret [.ag [.i .i64 e.k, .i .i64 e.a, .i .i64 e.n, bv], .ni] ht hx (.tu _ (nm2 (eyV_nm e) .ni)) (.tus _ _ (.cons hvw (.cons (.one (.refl _)) .nil))) rfl (rsC K3 h2 .here rfl (rsT h3 rsN))
    · refine kvw (t := 8) nthx ?_ K .here
      replace K := K.drop0 rfl
      conv => whnf
      refine kgo ?_; (repeat (first | intro (X:Nat) | intro (z:St) | intro (av:V) | intro (tk:Option Nat) | (intro (K1:Kn _ _ _); (try clear K); rename Kn _ _ _ => K))); conv => whnf
      refine ⟨rfl, Int.le_refl _, .s r0, rfl, ?_⟩
      conv => whnf
      refine kgo ?_; (repeat (first | intro (X:Nat) | intro (z:St) | intro (av:V) | intro (tk:Option Nat) | (intro (K1:Kn _ _ _); (try clear K); rename Kn _ _ _ => K))); conv => whnf
      refine ⟨_, _, atoi_d (l := r0) (Nat.le_trans hr0 (by decide)) _, ?_⟩
      conv => whnf
      refine kgo ?_; (repeat (first | intro (X:Nat) | intro (z:St) | intro (av:V) | intro (tk:Option Nat) | (intro (K1:Kn _ _ _); (try clear K); rename Kn _ _ _ => K))); conv => whnf
      refine kxslc 1 ((r0 :: r1 :: R2).map V.s).length ?_ (by simp) (Nat.le_refl _)
      rw [show (((r0 :: r1 :: R2).map V.s).take ((r0 :: r1 :: R2).map V.s).length).drop 1 = (r1 :: R2).map V.s by rw [List.take_length]; rfl]
      conv => whnf
      refine kgo ?_; (repeat (first | intro (X:Nat) | intro (z:St) | intro (av:V) | intro (tk:Option Nat) | (intro (K1:Kn _ _ _); (try clear K); rename Kn _ _ _ => K))); conv => whnf
      cases hfn : f.n <;> conv => whnf
      · refine kgo ?_; (repeat (first | intro (X:Nat) | intro (z:St) | intro (av:V) | intro (tk:Option Nat) | (intro (K1:Kn _ _ _); (try clear K); rename Kn _ _ _ => K))); conv => whnf
        refine ⟨rfl, Int.le_refl _, .s r1, rfl, ?_⟩
        conv => whnf
        refine kgo ?_; (repeat (first | intro (X:Nat) | intro (z:St) | intro (av:V) | intro (tk:Option Nat) | (intro (K1:Kn _ _ _); (try clear K); rename Kn _ _ _ => K))); conv => whnf
        have K1 := K.acc0 1
        clear K; rename Kn _ _ _ => K
        refine HM.fgt gnm1 [0, 2, 3, 4, 5, 6, 7, 9] fun _ => ?_
        refine tailH (S := S) (q := r1) (X := X) (k := k) (F := F) (E := E) (ws := w0 :: wr) (f := f) (d := d) (A := (atoiV r0)) (N := 0) hr1 K fun z' bv tk K => ?_
        obtain ⟨e, hee⟩ : ∃ e : Ey, e = ⟨(k : Nat), (atoiV r0), 0, if f.b = true then hxP r1 else []⟩ := ⟨_, rfl⟩
        have hpr : prC f ((k : Nat) : Int) (w0 :: wr) = e := by
          rw [hee]
          unfold prC restC
          rw [show (w0 :: wr).tail ++ [[], []] = r0 :: r1 :: R2 by rw [← hR2, ← hR]; rfl, hfa, hfn]
          rfl
        have hkk : e.k = (k : Nat) := by rw [hee]
        have hfe : fmS e.k = some f := by rw [hkk]; exact hf
        have heok : EyOk e := hpr ▸ prC_ok ⟨by omega, by omega⟩ (w0 :: wr)
        have hbl : e.b.length ≤ 100000 := by
          rw [hee]
          show (if f.b = true then hxP r1 else []).length ≤ 100000
          split
          · exact Nat.le_trans (hxP_len r1) (Nat.le_trans hr1 (by decide))
          · decide
        rw [hpr] at hrd
        refine aft (e := e) (f := f) (d := d) (bv := bv) (tk := tk) hS (K.cast (by rw [hee])) hfe heok hbl (fun hno e' z3 he' K3 => ?_) (fun hmf hln e' z3 h2 h3 hvw K3 => ?_)
        · rw [if_neg fun h => hno h.2] at hrd
          conv => whnf
          refine HM.fgt gnm1 [0, 2, 3, 4, 5] fun _ => ?_
          rw [he']
          clear K; rename Kn _ _ _ => K
          conv => whnf
          refine kgo ?_; (repeat (first | intro (X:Nat) | intro (z:St) | intro (av:V) | intro (tk:Option Nat) | (intro (K1:Kn _ _ _); (try clear K); rename Kn _ _ _ => K))); conv => whnf
          intro hg'
          exact ⟨10 - (k + 1), fg [0, 2, 3, 4, 5] _, _, by omega, WkM.fg hg', k + 1, by omega, rfl, by omega, rfl, hrd, K⟩
        · rw [if_pos ⟨hw, hmf, hln⟩] at hrd
          rw [hrd]
          show finM s [Rs.cn 2 4, Rs.t 3] _ _ .ret e' z3
          exact K3.ret [.ag [.i .i64 e.k, .i .i64 e.a, .i .i64 e.n, bv], .ni] ht hx (.tu _ (nm2 (eyV_nm e) .ni)) (.tus _ _ (.cons hvw (.cons (.one (.refl _)) .nil))) rfl (rsC K3 h2 .here rfl (rsT h3 rsN))
      · refine kgo ?_; (repeat (first | intro (X:Nat) | intro (z:St) | intro (av:V) | intro (tk:Option Nat) | (intro (K1:Kn _ _ _); (try clear K); rename Kn _ _ _ => K))); conv => whnf
        refine ⟨rfl, Int.le_refl _, .s r1, rfl, ?_⟩
        conv => whnf
        refine kgo ?_; (repeat (first | intro (X:Nat) | intro (z:St) | intro (av:V) | intro (tk:Option Nat) | (intro (K1:Kn _ _ _); (try clear K); rename Kn _ _ _ => K))); conv => whnf
        refine ⟨_, _, parse_d (l := r1) (Nat.le_trans hr1 (by decide)) _, ?_⟩
        conv => whnf
        refine kgo ?_; (repeat (first | intro (X:Nat) | intro (z:St) | intro (av:V) | intro (tk:Option Nat) | (intro (K1:Kn _ _ _); (try clear K); rename Kn _ _ _ => K))); conv => whnf
        refine ⟨rfl, Int.le_refl _, .s r1, rfl, ?_⟩
        conv => whnf
        refine kgo ?_; (repeat (first | intro (X:Nat) | intro (z:St) | intro (av:V) | intro (tk:Option Nat) | (intro (K1:Kn _ _ _); (try clear K); rename Kn _ _ _ => K))); conv => whnf
        have K1 := K.acc0 1
        clear K; rename Kn _ _ _ => K
        refine HM.fgt gnm1 [0, 2, 3, 4, 5, 6, 7, 9] fun _ => ?_
        refine tailH (S := S) (q := r1) (X := X) (k := k) (F := F) (E := E) (ws := w0 :: wr) (f := f) (d := d) (A := (atoiV r0)) (N := (parseV r1)) hr1 K fun z' bv tk K => ?_
        obtain ⟨e, hee⟩ : ∃ e : Ey, e = ⟨(k : Nat), (atoiV r0), (parseV r1), if f.b = true then hxP r1 else []⟩ := ⟨_, rfl⟩
        have hpr : prC f ((k : Nat) : Int) (w0 :: wr) = e := by
          rw [hee]
          unfold prC restC
          rw [show (w0 :: wr).tail ++ [[], []] = r0 :: r1 :: R2 by rw [← hR2, ← hR]; rfl, hfa, hfn]
          rfl
        have hkk : e.k = (k : Nat) := by rw [hee]
        have hfe : fmS e.k = some f := by rw [hkk]; exact hf
        have heok : EyOk e := hpr ▸ prC_ok ⟨by omega, by omega⟩ (w0 :: wr)
        have hbl : e.b.length ≤ 100000 := by
          rw [hee]
          show (if f.b = true then hxP r1 else []).length ≤ 100000
          split
          · exact Nat.le_trans (hxP_len r1) (Nat.le_trans hr1 (by decide))
          · decide
        rw [hpr] at hrd
        refine aft (e := e) (f := f) (d := d) (bv := bv) (tk := tk) hS (K.cast (by rw [hee])) hfe heok hbl (fun hno e' z3 he' K3 => ?_) (fun hmf hln e' z3 h2 h3 hvw K3 => ?_)
        · rw [if_neg fun h => hno h.2] at hrd
          conv => whnf
          refine HM.fgt gnm1 [0, 2, 3, 4, 5] fun _ => ?_
          rw [he']
          clear K; rename Kn _ _ _ => K
          conv => whnf
          refine kgo ?_; (repeat (first | intro (X:Nat) | intro (z:St) | intro (av:V) | intro (tk:Option Nat) | (intro (K1:Kn _ _ _); (try clear K); rename Kn _ _ _ => K))); conv => whnf
          intro hg'
          exact ⟨10 - (k + 1), fg [0, 2, 3, 4, 5] _, _, by omega, WkM.fg hg', k + 1, by omega, rfl, by omega, rfl, hrd, K⟩
        · rw [if_pos ⟨hw, hmf, hln⟩] at hrd
          rw [hrd]
          show finM s [Rs.cn 2 4, Rs.t 3] _ _ .ret e' z3
          exact K3.ret [.ag [.i .i64 e.k, .i .i64 e.a, .i .i64 e.n, bv], .ni] ht hx (.tu _ (nm2 (eyV_nm e) .ni)) (.tus _ _ (.cons hvw (.cons (.one (.refl _)) .nil))) rfl (rsC K3 h2 .here rfl (rsT h3 rsN))
  · rw [ksL_end (by omega)] at hrd
    rw [show leZ ((k : Nat) : Int) 9 = false by rw [leZ_eq]; exact decide_eq_false (by omega), show rdC S = none from hrd]
    conv => whnf
    refine kgo ?_; (repeat (first | intro (X:Nat) | intro (z:St) | intro (av:V) | intro (tk:Option Nat) | (intro (K1:Kn _ _ _); (try clear K); rename Kn _ _ _ => K))); conv => whnf
    exact K.ret [.ag [.i .i64 0, .i .i64 0, .i .i64 0, .ns], .ifc 92 (.ag [.s S])] ht hx (.tu _ (nm2 (eyV_nm _) (.ifc _ _ (.ag _ (nm1 (.s _)))))) (.tus _ _ (.cons (.ag _ _ (.cons (.refl _) (.cons (.refl _) (.cons (.refl _) (.cons (.ns _) .nil))))) (.cons (.one (.refl _)) .nil)))
end Go.Proofs.YtbcapobkbgckbaaGreatDoor
