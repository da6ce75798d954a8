/-
  Contract: an entry's line is read, the document's way. No statement stands here.
-/
import Derived.Test.YtbcapobkbgckbaaGreatDoorLin
import Derived.Test.YtbcapobkbgckbaaGreatDoorSrl
import Derived.Test.YtbcapobkbgckbaaGreatDoorWd
set_option linter.all false
namespace Go.Proofs.YtbcapobkbgckbaaGreatDoor
open Go Rf
set_option maxRecDepth 100000
set_option maxHeartbeats 4000000

def oneV : Option Ey → V
  | some e => .tu [eyV e, .b true]
  | none => .tu [.ag [.bad, .bad, .bad, .bad], .b false]
theorem b4_nm {L : Nat → Prop} : Nm L (.ag [.bad, .bad, .bad, .bad]) := .ag _ fun x hx => by
  simp only [List.mem_cons, List.not_mem_nil, or_false] at hx
  rcases hx with rfl | rfl | rfl | rfl <;> exact .bad
theorem b4_vw (a b c d : V) : Vwa (.ag [a, b, c, d]) (.ag [.bad, .bad, .bad, .bad]) := .ag _ _ (.cons (.bad _) (.cons (.bad _) (.cons (.bad _) (.cons (.bad _) .nil))))
def ERo (S : List UInt8) (X : Nat) (ws : List (List UInt8)) (k : Nat) : List V := (.s S :: .bad :: .p X 0 :: .b false :: .pu 1 (ws.map V.s) .u :: .i .i64 (k : Nat) :: List.replicate 90 .bad)
def ERq (S : List UInt8) (X : Nat) (ws : List (List UInt8)) (k : Nat) (wh : List UInt8) (E i : Nat) : List V := (.s S :: .bad :: .p X 0 :: .b false :: .pu 1 (ws.map V.s) .u :: .i .i64 (k : Nat) :: .bad :: .s wh :: .p E 0 :: .i .i64 (i : Nat) :: List.replicate 86 .bad)
def ERw (S : List UInt8) (X : Nat) (ws : List (List UInt8)) (k : Nat) (wh : List UInt8) (E i : Nat) (x : List UInt8) (j : Nat) : List V := (.s S :: .bad :: .p X 0 :: .b false :: .pu 1 (ws.map V.s) .u :: .i .i64 (k : Nat) :: .bad :: .s wh :: .p E 0 :: .i .i64 (i : Nat) :: .s x :: .i .i64 (j : Nat) :: List.replicate 84 .bad)
theorem nbR_lt (c : UInt8) : nbR c < 16 := by unfold nbR; split <;> omega
def foR (k : Nat) (l : List (UInt8 × List UInt8)) : Ey := l.foldl (fun e p => stR e p.1 p.2) ⟨(k : Nat), 0, 0, []⟩
theorem foR_snoc (k : Nat) (l : List (UInt8 × List UInt8)) (i : Nat) (c : UInt8) (x : List UInt8) (h : l[i]? = some (c, x)) : foR k (l.take (i + 1)) = stR (foR k (l.take i)) c x := by
  unfold foR; rw [List.take_add_one, h]; simp
theorem hxR_len : ∀ l : List UInt8, (hxR l).length ≤ l.length
  | [] => Nat.le_refl _
  | [_] => by simp [hxR]
  | a :: b :: t => by
    have := hxR_len t
    simp only [hxR, List.length_cons]; omega
theorem one_den (S : List UInt8) (hS : S.length ≤ 5000) (s : St) (hx : NoX s) : Den gt0 Tryz.prog 28 [.s S] s (oneV (rdR S)) s := by
  refine Den.tidy fun ht => Den.hm gnm0 hF28 ?_
  have K := Kn.init ht.1 hx
  conv => whnf
  refine kgo ?_; (repeat (first | intro (X:Nat) | intro (z:St) | intro (av:V) | intro (tk:Option Nat) | (intro (K1:Kn _ _ _); (try clear K); rename Kn _ _ _ => K))); conv => whnf
  revert X; intro X K
  refine ⟨_, _, words_den S hS _ K.x, ?_⟩
  conv => whnf
  refine kgo ?_; (repeat (first | intro (X:Nat) | intro (z:St) | intro (av:V) | intro (tk:Option Nat) | (intro (K1:Kn _ _ _); (try clear K); rename Kn _ _ _ => K))); conv => whnf
  have hws : ∀ w ∈ cutL 32 S, w.length ≤ 5000 := fun w hw => Nat.le_trans (cutL_el 32 S w hw) hS
  have hwl : (cutL 32 S).length ≤ 5001 := Nat.le_trans (cutL_len 32 S) (by omega)
  have hrd : rdR S = ((ksL 1).findSome? (rdRk S (cutL 32 S))).getD none := rfl
  obtain ⟨w0, wr, hcut⟩ : ∃ w0 wr, cutL 32 S = w0 :: wr := by
    cases h : cutL 32 S with
    | nil => exact (cutL_ne 32 S h).elim
    | cons a b => exact ⟨a, b, rfl⟩
  rw [hcut] at hrd hws hwl ⊢
  have hll : ((w0 :: wr).map V.s).length = (w0 :: wr).length := List.length_map ..
  refine HM.loop gnm0 fun hg => ⟨fun m ev z' => ∃ k : Nat, 1 ≤ k ∧ m = 10 - k ∧ k ≤ 10 ∧ ev = ERo S X (w0 :: wr) k ∧ rdR S = ((ksL k).findSome? (rdRk S (w0 :: wr))).getD none ∧ Kn s z' [.ob true X (.c [.i .i64 0, .i .i64 0, .i .i64 0, .ns] 0 (some 26))],
    ⟨9, fg [0, 2, 3, 4, 5] _, _, WkM.fg hg, 1, Nat.le_refl _, rfl, by decide, rfl, hrd, K⟩, ?_⟩
  clear K hrd
  rintro m ev z1 ⟨k, hk1, rfl, hk10, rfl, hrd, K⟩
  conv => whnf
  refine kgo ?_; (repeat (first | intro (X:Nat) | intro (z:St) | intro (av:V) | intro (tk:Option Nat) | (intro (K1:Kn _ _ _); (try clear K); rename Kn _ _ _ => K))); conv => whnf
  by_cases hk : k ≤ 9
  rotate_left
  · rw [ksL_end (by omega)] at hrd
    rw [show leZ ((k : Nat) : Int) 9 = false by rw [leZ_eq]; exact decide_eq_false (by omega), show rdR S = none from hrd]
    conv => whnf
    refine kgo ?_; (repeat (first | intro (X:Nat) | intro (z:St) | intro (av:V) | intro (tk:Option Nat) | (intro (K1:Kn _ _ _); (try clear K); rename Kn _ _ _ => K))); conv => whnf
    exact K.ret [.ag [.i .i64 0, .i .i64 0, .i .i64 0, .ns], .b false] ht hx (.tu _ (nm2 b4_nm (.b _))) (.tus _ _ (.cons (b4_vw _ _ _ _) (.cons (.one (.refl _)) .nil)))
  rw [show leZ ((k : Nat) : Int) 9 = true by rw [leZ_eq]; exact decide_eq_true (by omega)]
  rw [ksL_cons (by omega), List.findSome?_cons] at hrd
  conv => whnf
  refine kgo ?_; (repeat (first | intro (X:Nat) | intro (z:St) | intro (av:V) | intro (tk:Option Nat) | (intro (K1:Kn _ _ _); (try clear K); rename Kn _ _ _ => K))); conv => whnf
  refine ⟨_, _, word_den (k : Nat) _, ?_⟩
  obtain ⟨f, hf⟩ : ∃ f, fmS ((k : Nat) : Int) = some f := by
    rcases fmS_cases ((k : Nat) : Int) with ⟨h', -⟩ | ⟨-, h'⟩ | ⟨-, h'⟩ | ⟨-, h'⟩ | ⟨-, h'⟩ | ⟨-, h'⟩ | ⟨-, h'⟩ | ⟨-, h'⟩ | ⟨-, h'⟩ | ⟨-, h'⟩
    · omega
    all_goals exact ⟨_, h'⟩
  rw [show woV ((k : Nat) : Int) = .tu [.s f.w, .s (whF f)] by rw [woV, hf]]
  have hrk : rdRk S (w0 :: wr) ((k : Nat) : Int) = if f.w = w0 ∧ (w0 :: wr).length = 1 + (whF f).length then some (if mayS (prR (k : Nat) (whF f) wr) = true ∧ lnS (prR (k : Nat) (whF f) wr) = S then some (prR (k : Nat) (whF f) wr) else none) else none := by
    by_cases h : f.w = w0 ∧ (w0 :: wr).length = 1 + (whF f).length
    · have e : okR (w0 :: wr) (k : Nat) = some f := by unfold okR; rw [hf]; exact if_pos h
      unfold rdRk; rw [e, if_pos h]; rfl
    · have e : okR (w0 :: wr) (k : Nat) = none := by unfold okR; rw [hf]; exact if_neg h
      unfold rdRk; rw [e, if_neg h]
  rw [hrk] at hrd
  clear hrk
  have hwh : (whF f).length ≤ 3 := by unfold whF; split <;> split <;> split <;> simp
  conv => whnf
  refine kgo ?_; (repeat (first | intro (X:Nat) | intro (z:St) | intro (av:V) | intro (tk:Option Nat) | (intro (K1:Kn _ _ _); (try clear K); rename Kn _ _ _ => K))); conv => whnf
  refine ⟨rfl, Int.le_refl _, .s w0, rfl, ?_⟩
  conv => whnf
  refine kgo ?_; (repeat (first | intro (X:Nat) | intro (z:St) | intro (av:V) | intro (tk:Option Nat) | (intro (K1:Kn _ _ _); (try clear K); rename Kn _ _ _ => K))); conv => whnf
  by_cases hw : f.w = w0
  rotate_left
  · rw [show (f.w == w0) = false from beq_eq_false_iff_ne.2 hw]
    conv => whnf
    refine kgo ?_; (repeat (first | intro (X:Nat) | intro (z:St) | intro (av:V) | intro (tk:Option Nat) | (intro (K1:Kn _ _ _); (try clear K); rename Kn _ _ _ => K))); conv => whnf
    intro hg'
    rw [if_neg (fun h => hw h.1)] at hrd
    exact ⟨10 - (k + 1), fg [0, 2, 3, 4, 5] _, _, by omega, WkM.fg hg', k + 1, by omega, rfl, by omega, rfl, hrd, K⟩
  rw [show (f.w == w0) = true from beq_iff_eq.2 hw]
  conv => whnf
  refine kgo ?_; (repeat (first | intro (X:Nat) | intro (z:St) | intro (av:V) | intro (tk:Option Nat) | (intro (K1:Kn _ _ _); (try clear K); rename Kn _ _ _ => K))); conv => whnf
  rw [hll, show wrapF .i64 (1 + (((whF f).length : Nat) : Int)) = ((1 + (whF f).length : Nat) : Int) by rw [wI]; omega]
  by_cases hln : (w0 :: wr).length = 1 + (whF f).length
  rotate_left
  · rw [show eqZ (((w0 :: wr).length : Nat) : Int) ((1 + (whF f).length : Nat) : Int) = false by rw [eqZ_eq]; exact beq_eq_false_iff_ne.2 (by omega)]
    conv => whnf
    refine kgo ?_; (repeat (first | intro (X:Nat) | intro (z:St) | intro (av:V) | intro (tk:Option Nat) | (intro (K1:Kn _ _ _); (try clear K); rename Kn _ _ _ => K))); conv => whnf
    intro hg'
    rw [if_neg (fun h => hln h.2)] at hrd
    exact ⟨10 - (k + 1), fg [0, 2, 3, 4, 5] _, _, by omega, WkM.fg hg', k + 1, by omega, rfl, by omega, rfl, hrd, K⟩
  rw [show eqZ (((w0 :: wr).length : Nat) : Int) ((1 + (whF f).length : Nat) : Int) = true by rw [eqZ_eq]; exact beq_iff_eq.2 (by omega)]
  rw [if_pos ⟨hw, hln⟩] at hrd
  replace hrd : rdR S = if mayS (prR (k : Nat) (whF f) wr) = true ∧ lnS (prR (k : Nat) (whF f) wr) = S then some (prR (k : Nat) (whF f) wr) else none := hrd
  have hwl2 : wr.length = (whF f).length := by simp at hln; omega
  conv => whnf
  refine kgo ?_; (repeat (first | intro (X:Nat) | intro (z:St) | intro (av:V) | intro (tk:Option Nat) | (intro (K1:Kn _ _ _); (try clear K); rename Kn _ _ _ => K))); conv => whnf
  revert X; intro E K
  have K1 := K.acc0 1
  clear K; rename Kn _ _ _ => K
  refine HM.loop gnm0 fun hg => ⟨fun m ev z' => ∃ (i : Nat) (e : Ey) (bv : V) (tk : Option Nat), i ≤ (whF f).length ∧ m = (whF f).length - i ∧ ev = ERq S X (w0 :: wr) k (whF f) E i ∧ foR k (((whF f).zip wr).take i) = e ∧ e.b.length ≤ 5000 * i ∧ Kn s z' [.ac 1 bv (e.b.map bV) tk, .ob true E (.c [.i .i64 e.k, .i .i64 e.a, .i .i64 e.n, bv] 0 (some 26)), .ob true X (.c [.i .i64 0, .i .i64 0, .i .i64 0, .ns] 0 (some 26))],
    ⟨(whF f).length, fg [0, 2, 3, 4, 5, 7, 8, 9] _, _, WkM.fg hg, 0, ⟨(k : Nat), 0, 0, []⟩, .ns, none, Nat.zero_le _, rfl, rfl, rfl, Nat.le_refl _, K⟩, ?_⟩
  clear K
  rintro m ev z1 ⟨i, e, bv, tk, hi, rfl, rfl, hfo, hel, K⟩
  conv => whnf
  refine kgo ?_; (repeat (first | intro (X:Nat) | intro (z:St) | intro (av:V) | intro (tk:Option Nat) | (intro (K1:Kn _ _ _); (try clear K); rename Kn _ _ _ => K))); conv => whnf
  refine brL ⟨fun hlt => ?_, fun hge => ?_⟩ <;> conv => whnf
  · have hlt2 : i < wr.length := by omega
    have hci : (whF f)[i]? = some (whF f)[i] := List.getElem?_eq_getElem hlt
    have hxi : wr[i]? = some wr[i] := List.getElem?_eq_getElem hlt2
    have hzi : ((whF f).zip wr)[i]? = some ((whF f)[i], wr[i]) := by rw [List.getElem?_zip_eq_some]; exact ⟨hci, hxi⟩
    have hxl : wr[i].length ≤ 5000 := hws _ (List.mem_cons_of_mem _ (List.getElem_mem hlt2))
    generalize (whF f)[i] = c at hci hzi
    generalize wr[i] = x at hxi hzi hxl
    have hst := foR_snoc k _ i c x hzi
    rw [hfo] at hst
    have hi3 : i ≤ 2 := by omega
    refine kgo ?_; (repeat (first | intro (X:Nat) | intro (z:St) | intro (av:V) | intro (tk:Option Nat) | (intro (K1:Kn _ _ _); (try clear K); rename Kn _ _ _ => K))); conv => whnf
    refine ⟨Int.natCast_nonneg _, c, hci, ?_⟩
    conv => whnf
    refine kgo ?_; (repeat (first | intro (X:Nat) | intro (z:St) | intro (av:V) | intro (tk:Option Nat) | (intro (K1:Kn _ _ _); (try clear K); rename Kn _ _ _ => K))); conv => whnf
    by_cases h97 : c = 97
    · subst h97
      rw [show eqZ (((97 : UInt8).toNat : Nat) : Int) 97 = true from rfl]
      conv => whnf
      refine kgo ?_; (repeat (first | intro (X:Nat) | intro (z:St) | intro (av:V) | intro (tk:Option Nat) | (intro (K1:Kn _ _ _); (try clear K); rename Kn _ _ _ => K))); conv => whnf
      refine ⟨_, _, value_den x hxl _, ?_⟩
      conv => whnf
      refine kgo ?_; (repeat (first | intro (X:Nat) | intro (z:St) | intro (av:V) | intro (tk:Option Nat) | (intro (K1:Kn _ _ _); (try clear K); rename Kn _ _ _ => K))); conv => whnf
      intro hg'
      exact ⟨(whF f).length - (i + 1), fg [0, 2, 3, 4, 5, 7, 8, 9] _, _, by omega, WkM.fg hg', i + 1, stR e 97 x, bv, tk, hlt, rfl, rfl, hst, by show e.b.length ≤ _; omega, K⟩
    rw [show eqZ ((c.toNat : Nat) : Int) 97 = false by
      rw [eqZ_eq]; simp; intro e1; exact h97 (UInt8.toNat_inj.1 (by rw [show (97 : UInt8).toNat = 97 from rfl]; omega))]
    conv => whnf
    refine kgo ?_; (repeat (first | intro (X:Nat) | intro (z:St) | intro (av:V) | intro (tk:Option Nat) | (intro (K1:Kn _ _ _); (try clear K); rename Kn _ _ _ => K))); conv => whnf
    by_cases h110 : c = 110
    · subst h110
      rw [show eqZ (((110 : UInt8).toNat : Nat) : Int) 110 = true from rfl]
      conv => whnf
      refine kgo ?_; (repeat (first | intro (X:Nat) | intro (z:St) | intro (av:V) | intro (tk:Option Nat) | (intro (K1:Kn _ _ _); (try clear K); rename Kn _ _ _ => K))); conv => whnf
      refine ⟨_, _, value_den x hxl _, ?_⟩
      conv => whnf
      refine kgo ?_; (repeat (first | intro (X:Nat) | intro (z:St) | intro (av:V) | intro (tk:Option Nat) | (intro (K1:Kn _ _ _); (try clear K); rename Kn _ _ _ => K))); conv => whnf
      intro hg'
      exact ⟨(whF f).length - (i + 1), fg [0, 2, 3, 4, 5, 7, 8, 9] _, _, by omega, WkM.fg hg', i + 1, stR e 110 x, bv, tk, hlt, rfl, rfl, hst, by show e.b.length ≤ _; omega, K⟩
    rw [show eqZ ((c.toNat : Nat) : Int) 110 = false by
      rw [eqZ_eq]; simp; intro e1; exact h110 (UInt8.toNat_inj.1 (by rw [show (110 : UInt8).toNat = 110 from rfl]; omega))]
    conv => whnf
    refine kgo ?_; (repeat (first | intro (X:Nat) | intro (z:St) | intro (av:V) | intro (tk:Option Nat) | (intro (K1:Kn _ _ _); (try clear K); rename Kn _ _ _ => K))); conv => whnf
    have hse : stR e c x = { e with b := e.b ++ hxR x } := by unfold stR; rw [if_neg h97, if_neg h110]
    refine HM.loop gnm0 fun hg => ⟨fun m ev z' => ∃ (j : Nat) (dn : List UInt8) (bv : V) (tk : Option Nat), j ≤ x.length ∧ m = x.length - j ∧ ev = ERw S X (w0 :: wr) k (whF f) E i x j ∧ hxR x = dn ++ hxR (x.drop j) ∧ dn.length ≤ j ∧ Kn s z' [.ac 1 bv ((e.b ++ dn).map bV) tk, .ob true E (.c [.i .i64 e.k, .i .i64 e.a, .i .i64 e.n, bv] 0 (some 26)), .ob true X (.c [.i .i64 0, .i .i64 0, .i .i64 0, .ns] 0 (some 26))],
      ⟨x.length, fg [0, 2, 3, 4, 5, 7, 8, 9, 10, 11] _, _, WkM.fg hg, 0, [], bv, tk, Nat.zero_le _, rfl, rfl, rfl, Nat.le_refl _, K.cast (by rw [List.append_nil])⟩, ?_⟩
    clear K
    rintro m ev z1 ⟨j, dn, bv, tk, hj, rfl, rfl, hdn, hdl, K⟩
    conv => whnf
    refine kgo ?_; (repeat (first | intro (X:Nat) | intro (z:St) | intro (av:V) | intro (tk:Option Nat) | (intro (K1:Kn _ _ _); (try clear K); rename Kn _ _ _ => K))); conv => whnf
    have hdl2 : ((e.b ++ dn).map bV).length ≤ 20000 := by rw [List.length_map, List.length_append]; omega
    by_cases hj2 : j + 1 < x.length
    rotate_left
    · rw [show ltZ ((j + 1 : Nat) : Int) (x.length : Nat) = false by rw [ltZ_eq]; exact decide_eq_false (by omega)]
      have hnil : hxR (x.drop j) = [] := by
        have hl1 : (x.drop j).length ≤ 1 := by rw [List.length_drop]; omega
        match h : x.drop j, hl1 with
        | [], _ => rfl
        | [_], _ => rfl
      rw [hnil, List.append_nil] at hdn
      conv => whnf
      refine kgo ?_; (repeat (first | intro (X:Nat) | intro (z:St) | intro (av:V) | intro (tk:Option Nat) | (intro (K1:Kn _ _ _); (try clear K); rename Kn _ _ _ => K))); conv => whnf
      intro hg'
      exact ⟨(whF f).length - (i + 1), fg [0, 2, 3, 4, 5, 7, 8, 9] _, _, by omega, WkM.fg hg', i + 1, { e with b := e.b ++ hxR x }, bv, tk, hlt, rfl, rfl, hst.trans hse, by show (e.b ++ hxR x).length ≤ _; have := hxR_len x; rw [List.length_append]; omega, by rw [hdn]; exact K⟩
    rw [show ltZ ((j + 1 : Nat) : Int) (x.length : Nat) = true by rw [ltZ_eq]; exact decide_eq_true (by omega)]
    have haj : x[j]? = some x[j] := List.getElem?_eq_getElem (by omega)
    have hbj : x[j + 1]? = some x[j + 1] := List.getElem?_eq_getElem hj2
    have hdr : x.drop j = x[j] :: x[j + 1] :: x.drop (j + 2) := by rw [List.drop_eq_getElem_cons (by omega), List.drop_eq_getElem_cons hj2]
    generalize x[j] = a at haj hdr
    generalize x[j + 1] = b at hbj hdr
    have hab : wrapF .u8 (wrapF .u8 (16 * ((nbR a : Nat) : Int)) + ((nbR b : Nat) : Int)) = (((UInt8.ofNat (16 * nbR a + nbR b)).toNat : Nat) : Int) := by
      have := nbR_lt a; have := nbR_lt b
      rw [wId8 (n := 16 * ((nbR a : Nat) : Int)) (by omega) (by omega), wId8 (by omega) (by omega), UInt8.toNat_ofNat', Nat.mod_eq_of_lt (by omega)]; omega
    have hE := K.get (w := true) (.there .here)
    conv => whnf
    refine kgo ?_; (repeat (first | intro (X:Nat) | intro (z:St) | intro (av:V) | intro (tk:Option Nat) | (intro (K1:Kn _ _ _); (try clear K); rename Kn _ _ _ => K))); conv => whnf
    refine ⟨Int.natCast_nonneg _, a, haj, ?_⟩
    conv => whnf
    refine kgo ?_; (repeat (first | intro (X:Nat) | intro (z:St) | intro (av:V) | intro (tk:Option Nat) | (intro (K1:Kn _ _ _); (try clear K); rename Kn _ _ _ => K))); conv => whnf
    refine ⟨_, _, nib_den a _, ?_⟩
    conv => whnf
    refine kgo ?_; (repeat (first | intro (X:Nat) | intro (z:St) | intro (av:V) | intro (tk:Option Nat) | (intro (K1:Kn _ _ _); (try clear K); rename Kn _ _ _ => K))); conv => whnf
    rw [show wrapF .i64 (((j : Nat) : Int) + 1) = ((j + 1 : Nat) : Int) by rw [wI]; omega]
    refine ⟨Int.natCast_nonneg _, b, hbj, ?_⟩
    conv => whnf
    refine kgo ?_; (repeat (first | intro (X:Nat) | intro (z:St) | intro (av:V) | intro (tk:Option Nat) | (intro (K1:Kn _ _ _); (try clear K); rename Kn _ _ _ => K))); conv => whnf
    refine ⟨_, _, nib_den b _, ?_⟩
    conv => whnf
    refine kgo ?_; (repeat (first | intro (X:Nat) | intro (z:St) | intro (av:V) | intro (tk:Option Nat) | (intro (K1:Kn _ _ _); (try clear K); rename Kn _ _ _ => K))); conv => whnf
    rw [show wrapF .i64 (((j : Nat) : Int) + 2) = ((j + 2 : Nat) : Int) by rw [wI]; omega]
    intro hg'
    refine ⟨x.length - (j + 2), fg [0, 2, 3, 4, 5, 7, 8, 9, 10, 11] _, _, by omega, WkM.fg hg', j + 2, dn ++ [UInt8.ofNat (16 * nbR a + nbR b)], av, tk, by omega, rfl, rfl, ?_, ?_, K.cast ?_⟩
    · rw [hdn, hdr]; simp [hxR]
    · simp; omega
    · rw [hab, show (e.b ++ (dn ++ [UInt8.ofNat (16 * nbR a + nbR b)])).map bV = (e.b ++ dn).map bV ++ [.i .u8 ((UInt8.ofNat (16 * nbR a + nbR b)).toNat : Nat)] by simp [bV]]; rfl
  · have hall : prR (k : Nat) (whF f) wr = e := by
      rw [← hfo]
      have h1 : ((whF f).zip wr).length ≤ i := by rw [List.length_zip]; omega
      rw [List.take_of_length_le h1]; rfl
    rw [hall] at hrd
    have heok : EyOk e := by
      rw [← hall]
      exact foR_ok _ _ ⟨by unfold i64; simp only; omega, by unfold i64; simp only; omega, by unfold i64; simp only; omega⟩
    have hvw : Vwa (.ag [.i .i64 e.k, .i .i64 e.a, .i .i64 e.n, bv]) (eyV e) := .ag _ _ (.cons (.refl _) (.cons (.refl _) (.cons (.refl _) (.cons (K.vw .here) .nil))))
    have hE := K.get (w := true) (.there .here)
    refine kgo ?_; (repeat (first | intro (X:Nat) | intro (z:St) | intro (av:V) | intro (tk:Option Nat) | (intro (K1:Kn _ _ _); (try clear K); rename Kn _ _ _ => K))); conv => whnf
    have hbl : e.b.length ≤ 100000 := by
      have : 5000 * i ≤ 5000 * 3 := Nat.mul_le_mul_left _ (by omega)
      omega
    refine ⟨_, _, (rmay_den e heok.2.2 _ K.x).wka (.cons hvw .nil), ?_⟩
    cases hm : mayS e <;> conv => whnf
    · rw [if_neg fun h => by rw [hm] at h; cases h.1] at hrd
      rw [hrd]
      refine kgo ?_; (repeat (first | intro (X:Nat) | intro (z:St) | intro (av:V) | intro (tk:Option Nat) | (intro (K1:Kn _ _ _); (try clear K); rename Kn _ _ _ => K))); conv => whnf
      first | show HD gt0 Tryz.prog [z1] _ _ _ _ | show HD gt0 Tryz.prog [z1, z1] _ _ _ _ | show HD gt0 Tryz.prog [z1, z1, z1] _ _ _ _
      refine kgo ?_; (repeat (first | intro (X:Nat) | intro (z:St) | intro (av:V) | intro (tk:Option Nat) | (intro (K1:Kn _ _ _); (try clear K); rename Kn _ _ _ => K))); conv => whnf
      exact K.ret [.ag [.i .i64 e.k, .i .i64 e.a, .i .i64 e.n, bv], .b false] ht hx (.tu _ (nm2 b4_nm (.b _))) (.tus _ _ (.cons (b4_vw _ _ _ _) (.cons (.one (.refl _)) .nil)))
    obtain ⟨g, hge, hmg⟩ := mayS_some hm
    rw [lnS_of hge] at hrd
    refine kgo ?_; (repeat (first | intro (X:Nat) | intro (z:St) | intro (av:V) | intro (tk:Option Nat) | (intro (K1:Kn _ _ _); (try clear K); rename Kn _ _ _ => K))); conv => whnf
    rw [hE]
    conv => whnf
    refine kgo ?_; (repeat (first | intro (X:Nat) | intro (z:St) | intro (av:V) | intro (tk:Option Nat) | (intro (K1:Kn _ _ _); (try clear K); rename Kn _ _ _ => K))); conv => whnf
    refine ⟨_, _, (rline_den e g hge heok (may_b hmg).1 hbl _ K.x).wka (.cons hvw .nil), ?_⟩
    conv => whnf
    refine kgo ?_; (repeat (first | intro (X:Nat) | intro (z:St) | intro (av:V) | intro (tk:Option Nat) | (intro (K1:Kn _ _ _); (try clear K); rename Kn _ _ _ => K))); conv => whnf
    refine ⟨.s (S ++ [10]), (by
      show binV .add (.s S) (.s [10]) = _
      simp only [binV]
      rw [if_pos (by simp; omega)]), ?_⟩
    conv => whnf
    refine kgo ?_; (repeat (first | intro (X:Nat) | intro (z:St) | intro (av:V) | intro (tk:Option Nat) | (intro (K1:Kn _ _ _); (try clear K); rename Kn _ _ _ => K))); conv => whnf
    by_cases hls : lnF g e = S
    rotate_left
    · rw [show (lnF g e ++ [10] == S ++ [10]) = false from beq_eq_false_iff_ne.2 fun h => hls (List.append_cancel_right h)]
      rw [if_neg fun h => hls h.2] at hrd
      rw [hrd]
      exact K.ret [.ag [.i .i64 e.k, .i .i64 e.a, .i .i64 e.n, bv], .b false] ht hx (.tu _ (nm2 b4_nm (.b _))) (.tus _ _ (.cons (b4_vw _ _ _ _) (.cons (.one (.refl _)) .nil)))
    rw [show (lnF g e ++ [10] == S ++ [10]) = true from beq_iff_eq.2 (by rw [hls])]
    rw [if_pos ⟨hm, hls⟩] at hrd
    rw [hrd]
    have hnm : Nm s.L (eyV e) := .ag _ fun c hc => by
      simp only [List.mem_cons, List.not_mem_nil, or_false] at hc
      rcases hc with rfl | rfl | rfl | rfl
      · exact .i _ _
      · exact .i _ _
      · exact .i _ _
      · exact .pu _ _ _ (fun v hv => by
          obtain ⟨x, -, rfl⟩ := List.mem_map.1 hv; exact .i _ _) (fun k hk => by cases hk)
    exact K.ret [.ag [.i .i64 e.k, .i .i64 e.a, .i .i64 e.n, bv], .b true] ht hx (.tu _ (nm2 hnm (.b _))) (.tus _ _ (.cons hvw (.cons (.one (.refl _)) .nil)))
end Go.Proofs.YtbcapobkbgckbaaGreatDoor
