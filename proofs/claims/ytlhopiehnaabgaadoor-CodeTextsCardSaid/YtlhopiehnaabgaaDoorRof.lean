/-
  Contract: the document's reading of a text. No statement stands here.
-/
import Derived.Test.YtlhopiehnaabgaaDoorRofP
set_option linter.all false
namespace Go.Proofs.YtlhopiehnaabgaaDoor
open Go Rf
set_option maxRecDepth 100000
set_option maxHeartbeats 4000000

theorem hG14 : cF gt1 Tryd.prog (fun r o => !(r == 10 && o == 3)) 14 = some f14m := by kernel_rfl
def EW (S : List UInt8) (X P : Nat) (ls : List (List UInt8)) (i : Nat) : List V := (.s S :: .bad :: .p X 0 :: .b false :: .pu 1 (ls.map V.s) .u :: .bad :: .p P 0 :: .i .i64 (i : Nat) :: List.replicate 122 .bad)
def EW1 (S : List UInt8) (X P : Nat) (ls : List (List UInt8)) (i : Nat) (w : List UInt8) (a : Nat) : List V := (.s S :: .bad :: .p X 0 :: .b false :: .pu 1 (ls.map V.s) .u :: .bad :: .p P 0 :: .i .i64 (i : Nat) :: .s w :: .i .i64 (a : Nat) :: List.replicate 120 .bad)
theorem atR_le (w : List UInt8) : atR w ≤ w.length := by
  unfold atR; exact (List.takeWhile_sublist _).length_le
theorem atR_lt {w : List UInt8} {a : Nat} (h : a < atR w) : ∃ b, w[a]? = some b ∧ b ≠ 32 := by
  unfold atR at h
  induction w generalizing a with
  | nil => simp at h
  | cons x w ih =>
    by_cases hx : x = 32
    · subst hx; simp at h
    · rw [List.takeWhile_cons_of_pos (by simpa using hx)] at h
      cases a with
      | zero => exact ⟨x, rfl, hx⟩
      | succ a => exact ih (by simpa using h)
theorem atR_at {w : List UInt8} : w[atR w]? = none ∨ w[atR w]? = some 32 := by
  unfold atR
  induction w with
  | nil => exact .inl rfl
  | cons x w ih =>
    by_cases hx : x = 32
    · subst hx; exact .inr (by simp)
    · rw [List.takeWhile_cons_of_pos (by simpa using hx)]
      simpa using ih
theorem eqZ_ne32 {b : UInt8} (h : b ≠ 32) : eqZ ((b.toNat : Nat) : Int) 32 = false := by
  rw [eqZ_eq]
  simp
  intro e
  exact h (UInt8.toNat_inj.1 (by rw [show (32 : UInt8).toNat = 32 from rfl]; omega))
theorem aop_slS3 {e : List V} {s : St} {x y : Arg} {l : List UInt8} {b : Nat} (hx : x.ev e = .s l) (hy : y.ev e = .i .i64 ((b : Nat) : Int)) (hb : b ≤ l.length) : aop e s (.slS x none (some y)) = some (.s (l.take b), s) := by
  simp only [aop, hx, Option.map_some, Option.map_none, hy]
  delta slb
  simp [bnd_nat hb]
def EW2 (S : List UInt8) (X P : Nat) (ls : List (List UInt8)) (i : Nat) (w : List UInt8) (a Y o : Nat) : List V := (.s S :: .bad :: .p X 0 :: .b false :: .pu 1 (ls.map V.s) .u :: .bad :: .p P 0 :: .i .i64 (i : Nat) :: .s w :: .i .i64 (a : Nat) :: .p Y 0 :: .i .i64 (o : Nat) :: List.replicate 118 .bad)
theorem opR_succ {w wo : List UInt8} {o : Nat} (h : wsL[o]? = some wo) : opR w (o + 1) = if wo = w then ((o + 1 : Nat) : Int) else opR w o := by
  have ho : o < 17 := (List.getElem?_eq_some_iff.1 h).1
  unfold opR
  rw [List.take_add_one, h]
  simp only [Option.toList_some, List.zipIdx_append, List.foldl_append, List.zipIdx_singleton, List.foldl_cons, List.foldl_nil, List.length_take]
  rw [Nat.min_eq_left (by show o ≤ 17; omega)]
  simp
theorem rofT_den (S : List UInt8) (hS : S.length ≤ 3000) (s : St) (hx : NoX s) (r : Option (Int × List Kd)) (hr : foB (cutL 10 S).dropLast 0 (0, []) = r) : Den gt1 Tryd.prog 14 [.s S] s (rofT S r) s := by
  refine Den.tidy fun ht => Den.hmr gnm1 hG14 ?_
  have K := Kn.init ht.1 hx
  conv => whnf
  refine kgo ?_; (repeat (first | intro (X:Nat) | intro (z:St) | intro (av:V) | intro (tk:Option Nat) | (intro (K1:Kn _ _ _); (try clear K); rename Kn _ _ _ => K))); conv => whnf
  refine ⟨_, _, lines_den S (by omega) _ K.x, ?_⟩
  have hlen : (cutL 10 S).dropLast.length ≤ S.length + 1 := by have := cutL_len 10 S; rw [List.length_dropLast]; omega
  have hel : ∀ p ∈ (cutL 10 S).dropLast, p.length ≤ S.length := fun p hp => cutL_el 10 S p ((List.dropLast_subset _) hp)
  generalize (cutL 10 S).dropLast = ls at hlen hel hr
  have hll : (ls.map V.s).length = ls.length := List.length_map ..
  conv => whnf
  refine kgo ?_; (repeat (first | intro (X:Nat) | intro (z:St) | intro (av:V) | intro (tk:Option Nat) | (intro (K1:Kn _ _ _); (try clear K); rename Kn _ _ _ => K))); conv => whnf
  rename_i X0 z0
  revert X; intro P K
  refine HM.loop gnm1 fun hg => ⟨fun m e z' => ∃ (i : Nat) (p : Int × List Kd), i ≤ ls.length ∧ m = ls.length - i ∧ e = EW S X0 P ls i ∧ foB (ls.drop i) i p = r ∧ Few i p ∧ Rep s z' X0 P p,
    ⟨ls.length, fg [0, 2, 3, 4, 6, 7] _, _, WkM.fg hg, 0, (0, []), Nat.zero_le _, rfl, rfl, hr, ⟨⟨by decide, by decide⟩, Nat.le_refl _, fun k hk => by simp at hk⟩, .inl ⟨rfl, K⟩⟩, ?_⟩
  clear K
  rintro m e z1 ⟨i, p, hi1, rfl, rfl, hfo, hF, hR⟩
  conv => whnf
  refine kgo ?_; (repeat (first | intro (X:Nat) | intro (z:St) | intro (av:V) | intro (tk:Option Nat) | (intro (K1:Kn _ _ _); (try clear K); rename Kn _ _ _ => K))); conv => whnf
  rw [hll]
  refine brL ⟨fun hlt => ?_, fun hge => ?_⟩ <;> conv => whnf
  · have hli : ls[i]? = some ls[i] := List.getElem?_eq_getElem hlt
    rw [List.drop_eq_getElem_cons hlt, foB] at hfo
    generalize ls[i] = l at hli hfo
    have hl3 : l.length ≤ 3000 := Nat.le_trans (hel l (List.mem_of_getElem? hli)) hS
    obtain ⟨v, ks⟩ := p
    by_cases h0 : i = 0
    · subst h0
      rcases hR with ⟨hp, K⟩ | ⟨l1, c, last, lv, tk, hp, K⟩
      · cases (show ks = [] from hp)
        unfold LA at K
        refine kgo ?_; (repeat (first | intro (X:Nat) | intro (z:St) | intro (av:V) | intro (tk:Option Nat) | (intro (K1:Kn _ _ _); (try clear K); rename Kn _ _ _ => K))); conv => whnf
        by_cases h5 : 5 < l.length
        · rw [show ltZ 5 ((l.length : Nat) : Int) = true by rw [ltZ_eq]; simp; omega]
          conv => whnf
          refine kgo ?_; (repeat (first | intro (X:Nat) | intro (z:St) | intro (av:V) | intro (tk:Option Nat) | (intro (K1:Kn _ _ _); (try clear K); rename Kn _ _ _ => K))); conv => whnf
          refine ⟨_, _, aop_slS1 (a := 5) rfl rfl (Nat.le_of_lt h5), ?_⟩
          conv => whnf
          refine kgo ?_; (repeat (first | intro (X:Nat) | intro (z:St) | intro (av:V) | intro (tk:Option Nat) | (intro (K1:Kn _ _ _); (try clear K); rename Kn _ _ _ => K))); conv => whnf
          refine ⟨_, _, pup0 (value_den (l.drop 5) (by rw [List.length_drop]; omega)) _, ?_⟩
          conv => whnf
          refine kgo ?_; (repeat (first | intro (X:Nat) | intro (z:St) | intro (av:V) | intro (tk:Option Nat) | (intro (K1:Kn _ _ _); (try clear K); rename Kn _ _ _ => K))); conv => whnf
          intro hg'
          rw [show stB _ _ _ = some (valR (l.drop 5), []) from by simp [stB, h5]] at hfo
          refine ⟨ls.length - (0 + 1), fg [0, 2, 3, 4, 6, 7] _, _, by omega, WkM.fg hg', 0 + 1, _, hlt, rfl, rfl, hfo, few_stB (l := l) hF (by simp [stB, h5]), ?_⟩
          exact .inl ⟨rfl, K⟩
        · rw [show ltZ 5 ((l.length : Nat) : Int) = false by rw [ltZ_eq]; simp; omega]
          conv => whnf
          refine kgo ?_; (repeat (first | intro (X:Nat) | intro (z:St) | intro (av:V) | intro (tk:Option Nat) | (intro (K1:Kn _ _ _); (try clear K); rename Kn _ _ _ => K))); conv => whnf
          intro hg'
          rw [show stB _ _ _ = some (v, []) from by simp [stB, h5]] at hfo
          refine ⟨ls.length - (0 + 1), fg [0, 2, 3, 4, 6, 7] _, _, by omega, WkM.fg hg', 0 + 1, _, hlt, rfl, rfl, hfo, few_stB (l := l) hF (by simp [stB, h5]), ?_⟩
          exact .inl ⟨rfl, K⟩
      · have := hF.2.1
        rw [hp] at this; simp at this
    · refine kgo ?_; (repeat (first | intro (X:Nat) | intro (z:St) | intro (av:V) | intro (tk:Option Nat) | (intro (K1:Kn _ _ _); (try clear K); rename Kn _ _ _ => K))); conv => whnf
      rw [show eqZ ((i : Nat) : Int) 0 = false by rw [eqZ_eq]; simpa using h0]
      conv => whnf
      rcases hR with ⟨hp, K⟩ | ⟨l1, c, last, lv, tk, hp, K⟩
      · cases (show ks = [] from hp)
        unfold LA at K
        refine kgo ?_; (repeat (first | intro (X:Nat) | intro (z:St) | intro (av:V) | intro (tk:Option Nat) | (intro (K1:Kn _ _ _); (try clear K); rename Kn _ _ _ => K))); conv => whnf
        by_cases hk : l = [107, 105, 110, 100]
        · rw [show (l == [107, 105, 110, 100]) = true from beq_iff_eq.2 hk]
          conv => whnf
          refine kgo ?_; (repeat (first | intro (X:Nat) | intro (z:St) | intro (av:V) | intro (tk:Option Nat) | (intro (K1:Kn _ _ _); (try clear K); rename Kn _ _ _ => K))); conv => whnf
          obtain ⟨l0, z2, K1, ha⟩ := mapp0 K
          refine ⟨_, _, ha _ _ _ rfl rfl, ?_⟩
          clear K; rename Kn _ _ _ => K
          conv => whnf
          refine kgo ?_; (repeat (first | intro (X:Nat) | intro (z:St) | intro (av:V) | intro (tk:Option Nat) | (intro (K1:Kn _ _ _); (try clear K); rename Kn _ _ _ => K))); conv => whnf
          intro hg'
          rw [show stB _ _ _ = some (v, [] ++ [[]]) from by simp [stB, h0, hk]] at hfo
          refine ⟨ls.length - (i + 1), fg [0, 2, 3, 4, 6, 7] _, _, by omega, WkM.fg hg', i + 1, _, hlt, rfl, rfl, hfo, few_stB (l := l) hF (by simp [stB, h0, hk]), ?_⟩
          exact .inr ⟨l0, [], [], .ns, none, rfl, K.acc0 2⟩
        · rw [show (l == [107, 105, 110, 100]) = false from beq_eq_false_iff_ne.2 hk]
          conv => whnf
          refine kgo ?_; (repeat (first | intro (X:Nat) | intro (z:St) | intro (av:V) | intro (tk:Option Nat) | (intro (K1:Kn _ _ _); (try clear K); rename Kn _ _ _ => K))); conv => whnf
          rw [show stB _ _ _ = none from by simp [stB, h0, hk]] at hfo
          subst hfo
          exact K.retR [.ag [.i .i64 0, .ns], .b false] ht hx (.tu _ (nm2 (pgV_nm _ _) (.b _))) (.refl _) (.tus _ _ (.cons (.ag _ _ (.cons (.refl _) (.cons (.ns 1) .nil))) (.cons (.one (.refl _)) .nil)))
      · cases (show ks = c ++ [last] from hp)
        by_cases hk : l = [107, 105, 110, 100]
        · unfold LB at K
          refine kobw K (.there .here) (us := c.map kV ++ [kV last]) (vw_last (K.vw .here)) fun z2 K1 => ?_
          clear K; rename Kn _ _ _ => K
          replace K := K.drop0 rfl
          refine kgo ?_; (repeat (first | intro (X:Nat) | intro (z:St) | intro (av:V) | intro (tk:Option Nat) | (intro (K1:Kn _ _ _); (try clear K); rename Kn _ _ _ => K))); conv => whnf
          rw [show (l == [107, 105, 110, 100]) = true from beq_iff_eq.2 hk]
          conv => whnf
          refine kgo ?_; (repeat (first | intro (X:Nat) | intro (z:St) | intro (av:V) | intro (tk:Option Nat) | (intro (K1:Kn _ _ _); (try clear K); rename Kn _ _ _ => K))); conv => whnf
          obtain ⟨l0, z3, K1, ha⟩ := mapp1 (n := c.length + 1) K (by simp) (by have := hF.2.1; simp at this; omega)
          refine ⟨_, _, ha _ _ _ rfl rfl, ?_⟩
          clear K; rename Kn _ _ _ => K
          conv => whnf
          refine kgo ?_; (repeat (first | intro (X:Nat) | intro (z:St) | intro (av:V) | intro (tk:Option Nat) | (intro (K1:Kn _ _ _); (try clear K); rename Kn _ _ _ => K))); conv => whnf
          intro hg'
          rw [show stB _ _ _ = some (v, c ++ [last] ++ [[]]) from by simp [stB, h0, hk]] at hfo
          refine ⟨ls.length - (i + 1), fg [0, 2, 3, 4, 6, 7] _, _, by omega, WkM.fg hg', i + 1, _, hlt, rfl, rfl, hfo, few_stB (l := l) hF (by simp [stB, h0, hk]), ?_⟩
          exact .inr ⟨l0, c ++ [last], [], .ns, none, rfl, (K.acc0 2).cast (by simp [LB])⟩
        · unfold LB at K
          refine kgo ?_; (repeat (first | intro (X:Nat) | intro (z:St) | intro (av:V) | intro (tk:Option Nat) | (intro (K1:Kn _ _ _); (try clear K); rename Kn _ _ _ => K))); conv => whnf
          rw [show (l == [107, 105, 110, 100]) = false from beq_eq_false_iff_ne.2 hk]
          conv => whnf
          refine kgo ?_; (repeat (first | intro (X:Nat) | intro (z:St) | intro (av:V) | intro (tk:Option Nat) | (intro (K1:Kn _ _ _); (try clear K); rename Kn _ _ _ => K))); conv => whnf
          by_cases h3 : l.length < 3
          · rw [show ltZ ((l.length : Nat) : Int) 3 = true by rw [ltZ_eq]; simp; omega]
            conv => whnf
            refine kgo ?_; (repeat (first | intro (X:Nat) | intro (z:St) | intro (av:V) | intro (tk:Option Nat) | (intro (K1:Kn _ _ _); (try clear K); rename Kn _ _ _ => K))); conv => whnf
            rw [show stB _ _ _ = none from by simp [stB, h0, hk, h3]] at hfo
            subst hfo
            exact K.retR [.ag [.i .i64 0, .ns], .b false] ht hx (.tu _ (nm2 (pgV_nm _ _) (.b _))) (.refl _) (.tus _ _ (.cons (.ag _ _ (.cons (.refl _) (.cons (.ns 1) .nil))) (.cons (.one (.refl _)) .nil)))
          · rw [show ltZ ((l.length : Nat) : Int) 3 = false by rw [ltZ_eq]; simp; omega]
            conv => whnf
            refine kgo ?_; (repeat (first | intro (X:Nat) | intro (z:St) | intro (av:V) | intro (tk:Option Nat) | (intro (K1:Kn _ _ _); (try clear K); rename Kn _ _ _ => K))); conv => whnf
            refine ⟨_, _, aop_slS1 (a := 2) rfl rfl (by omega), ?_⟩
            rw [show stB _ _ _ = some (v, addL (c ++ [last]) (insR (l.drop 2))) from by simp [stB, h0, hk, h3]] at hfo
            have hwl : (l.drop 2).length ≤ 3000 := by rw [List.length_drop]; omega
            have hFw := fun q (hq : i64 q.2) => few_add (x := q) hF hq
            have hiR : i64 (insR (l.drop 2)).2 := by
              unfold insR
              simp only
              split
              · exact valR_i64 _
              · exact ⟨by decide, by decide⟩
            generalize l.drop 2 = w at hfo hwl hiR ⊢
            conv => whnf
            refine kgo ?_; (repeat (first | intro (X:Nat) | intro (z:St) | intro (av:V) | intro (tk:Option Nat) | (intro (K1:Kn _ _ _); (try clear K); rename Kn _ _ _ => K))); conv => whnf
            refine HM.loop gnm1 fun hg => ⟨fun m e z' => ∃ a : Nat, a ≤ atR w ∧ m = atR w - a ∧ e = EW1 S X0 P ls i w a ∧ Kn s z' (LB X0 P l1 v c last lv tk),
              ⟨atR w, fg [0, 2, 3, 4, 6, 7, 8, 9] _, _, WkM.fg hg, 0, Nat.zero_le _, rfl, rfl, K⟩, ?_⟩
            clear K
            rintro m e z2 ⟨a, ha, rfl, rfl, K⟩
            unfold LB at K
            conv => whnf
            refine kgo ?_; (repeat (first | intro (X:Nat) | intro (z:St) | intro (av:V) | intro (tk:Option Nat) | (intro (K1:Kn _ _ _); (try clear K); rename Kn _ _ _ => K))); conv => whnf
            by_cases hlt2 : a < atR w
            · obtain ⟨b, hb, hb32⟩ := atR_lt hlt2
              have hal : a < w.length := Nat.lt_of_lt_of_le hlt2 (atR_le w)
              rw [show ltZ ((a : Nat) : Int) ((w.length : Nat) : Int) = true by rw [ltZ_eq]; simpa using hal]
              conv => whnf
              refine kgo ?_; (repeat (first | intro (X:Nat) | intro (z:St) | intro (av:V) | intro (tk:Option Nat) | (intro (K1:Kn _ _ _); (try clear K); rename Kn _ _ _ => K))); conv => whnf
              refine ⟨Int.natCast_nonneg _, b, hb, ?_⟩
              conv => whnf
              refine kgo ?_; (repeat (first | intro (X:Nat) | intro (z:St) | intro (av:V) | intro (tk:Option Nat) | (intro (K1:Kn _ _ _); (try clear K); rename Kn _ _ _ => K))); conv => whnf
              rw [show eqZ ((b.toNat : Nat) : Int) 32 = false from eqZ_ne32 hb32]
              conv => whnf
              refine kgo ?_; (repeat (first | intro (X:Nat) | intro (z:St) | intro (av:V) | intro (tk:Option Nat) | (intro (K1:Kn _ _ _); (try clear K); rename Kn _ _ _ => K))); conv => whnf
              intro hg'
              exact ⟨atR w - (a + 1), fg [0, 2, 3, 4, 6, 7, 8, 9] _, _, by omega, WkM.fg hg', a + 1, hlt2, rfl, rfl, K⟩
            · obtain rfl : a = atR w := by omega
              rcases atR_at (w := w) with hn | h32
              rotate_left
              have hal : atR w < w.length := (List.getElem?_eq_some_iff.1 h32).1
              rw [show ltZ ((atR w : Nat) : Int) ((w.length : Nat) : Int) = true by rw [ltZ_eq]; simpa using hal]
              conv => whnf
              refine kgo ?_; (repeat (first | intro (X:Nat) | intro (z:St) | intro (av:V) | intro (tk:Option Nat) | (intro (K1:Kn _ _ _); (try clear K); rename Kn _ _ _ => K))); conv => whnf
              refine ⟨Int.natCast_nonneg _, 32, h32, ?_⟩
              conv => whnf
              refine kgo ?_; (repeat (first | intro (X:Nat) | intro (z:St) | intro (av:V) | intro (tk:Option Nat) | (intro (K1:Kn _ _ _); (try clear K); rename Kn _ _ _ => K))); conv => whnf
              rotate_left
              have hnl : ¬ atR w < w.length := by have := List.getElem?_eq_none_iff.1 hn; omega
              rw [show ltZ ((atR w : Nat) : Int) ((w.length : Nat) : Int) = false by rw [ltZ_eq]; simpa using hnl]
              conv => whnf
              refine kgo ?_; (repeat (first | intro (X:Nat) | intro (z:St) | intro (av:V) | intro (tk:Option Nat) | (intro (K1:Kn _ _ _); (try clear K); rename Kn _ _ _ => K))); conv => whnf
              all_goals
                revert X; intro Y K
                refine HM.loop gnm1 fun hg => ⟨fun m e z' => ∃ o : Nat, o ≤ 17 ∧ m = 17 - o ∧ e = EW2 S X0 P ls i w (atR w) Y o ∧ Kn s z' (.ob true Y (.c [.i .i64 (opR (w.take (atR w)) o), .i .i64 0] 0 (some 58)) :: LB X0 P l1 v c last lv tk),
                  ⟨17, fg [0, 2, 3, 4, 6, 7, 8, 9, 10, 11] _, _, WkM.fg hg, 0, Nat.zero_le _, rfl, rfl, K⟩, ?_⟩
                clear K
                rintro m e z3 ⟨o, ho, rfl, rfl, K⟩
                unfold LB at K
                conv => whnf
                refine kgo ?_; (repeat (first | intro (X:Nat) | intro (z:St) | intro (av:V) | intro (tk:Option Nat) | (intro (K1:Kn _ _ _); (try clear K); rename Kn _ _ _ => K))); conv => whnf
                by_cases ho2 : o < 17
                · rw [show ltZ ((o : Nat) : Int) 17 = true by rw [ltZ_eq]; simp; omega]
                  conv => whnf
                  obtain ⟨wo, hwo⟩ : ∃ wo, wsL[o]? = some wo := ⟨_, List.getElem?_eq_getElem ho2⟩
                  refine kgo ?_; (repeat (first | intro (X:Nat) | intro (z:St) | intro (av:V) | intro (tk:Option Nat) | (intro (K1:Kn _ _ _); (try clear K); rename Kn _ _ _ => K))); conv => whnf
                  refine ⟨_, _, pup0 rwords_den _, ?_⟩
                  conv => whnf
                  refine kgo ?_; (repeat (first | intro (X:Nat) | intro (z:St) | intro (av:V) | intro (tk:Option Nat) | (intro (K1:Kn _ _ _); (try clear K); rename Kn _ _ _ => K))); conv => whnf
                  refine ⟨_, _, aop_slS3 (b := atR w) rfl rfl (atR_le w), ?_⟩
                  conv => whnf
                  refine kgo ?_; (repeat (first | intro (X:Nat) | intro (z:St) | intro (av:V) | intro (tk:Option Nat) | (intro (K1:Kn _ _ _); (try clear K); rename Kn _ _ _ => K))); conv => whnf
                  by_cases hww : wo = w.take (atR w)
                  · rw [show (wo == w.take (atR w)) = true from beq_iff_eq.2 hww]
                    conv => whnf
                    refine kgo ?_; (repeat (first | intro (X:Nat) | intro (z:St) | intro (av:V) | intro (tk:Option Nat) | (intro (K1:Kn _ _ _); (try clear K); rename Kn _ _ _ => K))); conv => whnf
                    intro hg'
                    exact ⟨17 - (o + 1), fg [0, 2, 3, 4, 6, 7, 8, 9, 10, 11] _, _, by omega, WkM.fg hg', o + 1, ho2, rfl, rfl, K.cast (by rw [opR_succ hwo, if_pos hww]; rfl)⟩
                  · rw [show (wo == w.take (atR w)) = false from beq_eq_false_iff_ne.2 hww]
                    conv => whnf
                    refine kgo ?_; (repeat (first | intro (X:Nat) | intro (z:St) | intro (av:V) | intro (tk:Option Nat) | (intro (K1:Kn _ _ _); (try clear K); rename Kn _ _ _ => K))); conv => whnf
                    intro hg'
                    exact ⟨17 - (o + 1), fg [0, 2, 3, 4, 6, 7, 8, 9, 10, 11] _, _, by omega, WkM.fg hg', o + 1, ho2, rfl, rfl, K.cast (by rw [opR_succ hwo, if_neg hww]; rfl)⟩
                · rw [show ltZ ((o : Nat) : Int) 17 = false by rw [ltZ_eq]; simp; omega]
                  conv => whnf
                  obtain rfl : o = 17 := by omega
                  refine kgo ?_; (repeat (first | intro (X:Nat) | intro (z:St) | intro (av:V) | intro (tk:Option Nat) | (intro (K1:Kn _ _ _); (try clear K); rename Kn _ _ _ => K))); conv => whnf
                  have hwm : wrapF .i64 (((c.length + 1 : Nat) : Int) - 1) = ((c.length : Nat) : Int) := by
                    have := hF.2.1
                    simp at this
                    rw [wI]; omega
                  have hmx : 3000 ≤ maxLen := by decide
                  by_cases hal2 : atR w < w.length
                  · first
                    | exact absurd hal2 hnl
                    | (rw [show ltZ ((atR w : Nat) : Int) ((w.length : Nat) : Int) = true by rw [ltZ_eq]; simpa using hal2]
                       conv => whnf
                       refine kgo ?_; (repeat (first | intro (X:Nat) | intro (z:St) | intro (av:V) | intro (tk:Option Nat) | (intro (K1:Kn _ _ _); (try clear K); rename Kn _ _ _ => K))); conv => whnf
                       refine ⟨_, _, aop_slS1 (a := atR w + 1) rfl rfl (by omega), ?_⟩
                       conv => whnf
                       refine kgo ?_; (repeat (first | intro (X:Nat) | intro (z:St) | intro (av:V) | intro (tk:Option Nat) | (intro (K1:Kn _ _ _); (try clear K); rename Kn _ _ _ => K))); conv => whnf
                       refine ⟨_, _, pup0 (value_den (w.drop (atR w + 1)) (by rw [List.length_drop]; omega)) _, ?_⟩
                       have hins : insR w = (opR (w.take (atR w)) 17, valR (w.drop (atR w + 1))) := by rw [insR]; simp only [if_pos hal2]
                       conv => whnf
                       refine kgo ?_; (repeat (first | intro (X:Nat) | intro (z:St) | intro (av:V) | intro (tk:Option Nat) | (intro (K1:Kn _ _ _); (try clear K); rename Kn _ _ _ => K))); conv => whnf
                       rw [hwm]
                       have h1 := K.get (w := true) (.there (.there .here))
                       have hlb : last.length ≤ i := (hF.2.2 last (by simp)).1
                       have hcell : (c.map kV ++ [lv])[0 + ((c.length : Nat) : Int).toNat * 1]? = some lv := by simp
                       conv => whnf
                       refine kgo ?_; (repeat (first | intro (X:Nat) | intro (z:St) | intro (av:V) | intro (tk:Option Nat) | (intro (K1:Kn _ _ _); (try clear K); rename Kn _ _ _ => K))); conv => whnf
                       refine ⟨rfl, Int.natCast_nonneg _, by omega, ?_⟩
                       have hP := K.get (w := true) (.there (.there (.there .here)))
                       conv => whnf
                       refine kgo ?_; (repeat (first | intro (X:Nat) | intro (z:St) | intro (av:V) | intro (tk:Option Nat) | (intro (K1:Kn _ _ _); (try clear K); rename Kn _ _ _ => K))); conv => whnf
                       refine ⟨rfl, Int.natCast_nonneg _, by omega, ?_⟩
                       conv => whnf
                       refine kgo ?_; (repeat (first | intro (X:Nat) | intro (z:St) | intro (av:V) | intro (tk:Option Nat) | (intro (K1:Kn _ _ _); (try clear K); rename Kn _ _ _ => K))); conv => whnf
                       have hset : setAt (c.map kV ++ [lv]) (0 + ((c.length : Nat) : Int).toNat * 1) [av] = c.map kV ++ [av] := setAt_last _ _ _ (by simp)
                       refine kdstA (fun z3 K1 => ?_) (ho := by simp) (hc := hset)
                       clear K; rename Kn _ _ _ => K
                       conv => whnf
                       refine kgo ?_; (repeat (first | intro (X:Nat) | intro (z:St) | intro (av:V) | intro (tk:Option Nat) | (intro (K1:Kn _ _ _); (try clear K); rename Kn _ _ _ => K))); conv => whnf
                       intro hg'
                       refine ⟨ls.length - (i + 1), fg [0, 2, 3, 4, 6, 7] _, _, by omega, WkM.fg hg', i + 1, _, hlt, rfl, rfl, hfo, hFw _ hiR, ?_⟩
                       exact .inr ⟨l1, c, last ++ [insR w], av, tk, by simp [addL], (K.drop0 rfl).cast (by rw [hins]; simp [LB, insV])⟩)
                  · first
                    | exact absurd hal hal2
                    | (rw [show ltZ ((atR w : Nat) : Int) ((w.length : Nat) : Int) = false by rw [ltZ_eq]; simpa using hal2]
                       have hins : insR w = (opR (w.take (atR w)) 17, 0) := by rw [insR]; simp only [if_neg hal2]
                       conv => whnf
                       refine kgo ?_; (repeat (first | intro (X:Nat) | intro (z:St) | intro (av:V) | intro (tk:Option Nat) | (intro (K1:Kn _ _ _); (try clear K); rename Kn _ _ _ => K))); conv => whnf
                       rw [hwm]
                       have h1 := K.get (w := true) (.there (.there .here))
                       have hlb : last.length ≤ i := (hF.2.2 last (by simp)).1
                       have hcell : (c.map kV ++ [lv])[0 + ((c.length : Nat) : Int).toNat * 1]? = some lv := by simp
                       conv => whnf
                       refine kgo ?_; (repeat (first | intro (X:Nat) | intro (z:St) | intro (av:V) | intro (tk:Option Nat) | (intro (K1:Kn _ _ _); (try clear K); rename Kn _ _ _ => K))); conv => whnf
                       refine ⟨rfl, Int.natCast_nonneg _, by omega, ?_⟩
                       have hP := K.get (w := true) (.there (.there (.there .here)))
                       conv => whnf
                       refine kgo ?_; (repeat (first | intro (X:Nat) | intro (z:St) | intro (av:V) | intro (tk:Option Nat) | (intro (K1:Kn _ _ _); (try clear K); rename Kn _ _ _ => K))); conv => whnf
                       refine ⟨rfl, Int.natCast_nonneg _, by omega, ?_⟩
                       conv => whnf
                       refine kgo ?_; (repeat (first | intro (X:Nat) | intro (z:St) | intro (av:V) | intro (tk:Option Nat) | (intro (K1:Kn _ _ _); (try clear K); rename Kn _ _ _ => K))); conv => whnf
                       have hset : setAt (c.map kV ++ [lv]) (0 + ((c.length : Nat) : Int).toNat * 1) [av] = c.map kV ++ [av] := setAt_last _ _ _ (by simp)
                       refine kdstA (fun z3 K1 => ?_) (ho := by simp) (hc := hset)
                       clear K; rename Kn _ _ _ => K
                       conv => whnf
                       refine kgo ?_; (repeat (first | intro (X:Nat) | intro (z:St) | intro (av:V) | intro (tk:Option Nat) | (intro (K1:Kn _ _ _); (try clear K); rename Kn _ _ _ => K))); conv => whnf
                       intro hg'
                       refine ⟨ls.length - (i + 1), fg [0, 2, 3, 4, 6, 7] _, _, by omega, WkM.fg hg', i + 1, _, hlt, rfl, rfl, hfo, hFw _ hiR, ?_⟩
                       exact .inr ⟨l1, c, last ++ [insR w], av, tk, by simp [addL], (K.drop0 rfl).cast (by rw [hins]; simp [LB, insV])⟩)
  · rw [List.drop_of_length_le hge, foB] at hfo
    subst hfo
    obtain ⟨hv, hn1, hn2⟩ := hF
    obtain ⟨v, ks⟩ := p
    have hks : ks.length ≤ 5000 := by simp only at hn1; omega
    have hkk : ∀ k ∈ ks, k.length ≤ 5000 := fun k hk => by have := (hn2 k hk).1; omega
    have hki : ∀ k ∈ ks, ∀ x ∈ k, i64 x.2 := fun k hk => (hn2 k hk).2
    refine rep_end hR fun kv z2 cl hrd K hcl => ?_
    have hra : Rd z2 (.ag [.i .i64 v, kv]) (pgV v ks) := rd_two ((hrd _ _ _ K).le (fun l o h => (z2.drop_sub s.n).2 l o h))
    have hm := PDen.still (s := z2) (args := [.ag [.i .i64 v, kv]]) (pup0 (gt := gt1) (rmayL_den v ks hks hkk)) rfl (rd_one hra) (plain_b _)
    have hc := Den.still (args := [.ag [.i .i64 v, kv]]) (up0 (gt := gt1) (rtext_den v ks hks hkk hv hki z2.bare (fun l o h => by rw [St.bare_get] at h; cases h))) rfl (rd_one hra) (plain_s _)
    conv => whnf
    refine kgo ?_; (repeat (first | intro (X:Nat) | intro (z:St) | intro (av:V) | intro (tk:Option Nat) | (intro (K1:Kn _ _ _); (try clear K); rename Kn _ _ _ => K))); conv => whnf
    refine ⟨_, _, hm, ?_⟩
    conv => whnf
    refine kgo ?_; (repeat (first | intro (X:Nat) | intro (z:St) | intro (av:V) | intro (tk:Option Nat) | (intro (K1:Kn _ _ _); (try clear K); rename Kn _ _ _ => K))); conv => whnf
    cases hmay : mayP v ks <;> conv => whnf
    · rw [show rofT S (some (v, ks)) = .tu [pgV 0 [], .b false] by simp [rofT, hmay]]
      refine kgo ?_; (repeat (first | intro (X:Nat) | intro (z:St) | intro (av:V) | intro (tk:Option Nat) | (intro (K1:Kn _ _ _); (try clear K); rename Kn _ _ _ => K))); conv => whnf
      exact K.retR [.ag [.i .i64 0, .ns], .b false] ht hx (.tu _ (nm2 (pgV_nm _ _) (.b _))) (.refl _) (.tus _ _ (.cons (.ag _ _ (.cons (.refl _) (.cons (.ns 1) .nil))) (.cons (.one (.refl _)) .nil))) (by simpa [En.own] using hcl)
    · rw [K.get (w := true) .here]
      conv => whnf
      refine kgo ?_; (repeat (first | intro (X:Nat) | intro (z:St) | intro (av:V) | intro (tk:Option Nat) | (intro (K1:Kn _ _ _); (try clear K); rename Kn _ _ _ => K))); conv => whnf
      refine ⟨_, _, hc, ?_⟩
      conv => whnf
      refine kgo ?_; (repeat (first | intro (X:Nat) | intro (z:St) | intro (av:V) | intro (tk:Option Nat) | (intro (K1:Kn _ _ _); (try clear K); rename Kn _ _ _ => K))); conv => whnf
      rw [show txt v ks = pgT v ks by simp [txt, hmay]]
      by_cases hS2 : pgT v ks = S
      · rw [show (pgT v ks == S) = true from beq_iff_eq.2 hS2, show rofT S (some (v, ks)) = .tu [pgV v ks, .b true] by simp [rofT, hmay, hS2]]
        conv => whnf
        refine kgo ?_; (repeat (first | intro (X:Nat) | intro (z:St) | intro (av:V) | intro (tk:Option Nat) | (intro (K1:Kn _ _ _); (try clear K); rename Kn _ _ _ => K))); conv => whnf
        exact K.retR [.ag [.i .i64 v, kv], .b true] ht hx (.tu _ (nm2 (pgV_nm _ _) (.b _))) (rd_tu2 (rd_two (hrd _ _ _ K))) (.one (.refl _)) (by simpa [En.own] using hcl)
      · rw [show (pgT v ks == S) = false from beq_eq_false_iff_ne.2 hS2, show rofT S (some (v, ks)) = .tu [pgV 0 [], .b false] by simp [rofT, hS2]]
        conv => whnf
        refine kgo ?_; (repeat (first | intro (X:Nat) | intro (z:St) | intro (av:V) | intro (tk:Option Nat) | (intro (K1:Kn _ _ _); (try clear K); rename Kn _ _ _ => K))); conv => whnf
        exact K.retR [.ag [.i .i64 0, .ns], .b false] ht hx (.tu _ (nm2 (pgV_nm _ _) (.b _))) (.refl _) (.tus _ _ (.cons (.ag _ _ (.cons (.refl _) (.cons (.ns 1) .nil))) (.cons (.one (.refl _)) .nil))) (by simpa [En.own] using hcl)
end Go.Proofs.YtlhopiehnaabgaaDoor
