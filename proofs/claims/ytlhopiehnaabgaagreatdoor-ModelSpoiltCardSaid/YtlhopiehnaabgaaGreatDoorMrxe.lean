/-
  Contract: the code's reading of a model's text: its end. No statement stands here.
-/
import Derived.Test.YtlhopiehnaabgaaGreatDoorMrx0
set_option linter.all false
namespace Go.Proofs.YtlhopiehnaabgaaGreatDoor
open Go Rf
set_option maxRecDepth 100000
set_option maxHeartbeats 4000000

theorem rdE {S : List UInt8} {X M : Nat} {p : RM} {pv : V} {s z2 : St} (ht : Tidy s) (hx : NoX s) (hSh : ShM (psM p) p.2.2) (hI : I64M (psM p) p.2.2) (hE : EndC s z2 X M pv (psM p) p.2.2) :
    HM gt1 Tryz.prog s c24e (ERz S X M) z2 (finR s f9m.res (if mayM (psM p) p.2.2 ∧ mtxt (psM p) p.2.2 = S then .tu [mV (psM p) p.2.2, .i .i64 0] else .tu [mV [] [], .i .i64 4])) := by
  obtain ⟨cl, hcl, K, hrd⟩ := hE
  have hra : Rd z2 (.ag [pv, fsV p.2.2]) (mV (psM p) p.2.2) := .ag _ _ rfl fun j hj => by
    match j, hj with
    | 0, _ => exact (hrd _ _ _ K).le (fun l o h => (z2.drop_sub s.n).2 l o h)
    | 1, _ => exact .refl _
  have hm := Den.still (args := [.ag [pv, fsV p.2.2]]) (up0 (gt := gt1) (mmayM_den (psM p) p.2.2 hSh z2.bare (fun l o h => by rw [St.bare_get] at h; cases h))) rfl (rd_one hra) (plain_b _)
  have hc := Den.still (args := [.ag [pv, fsV p.2.2]]) (mtext_den (psM p) p.2.2 hSh hI z2.bare (fun l o h => by rw [St.bare_get] at h; cases h)) rfl (rd_one hra) (plain_s _)
  conv => whnf
  refine kgo ?_; (repeat (first | intro (X:Nat) | intro (z:St) | intro (av:V) | intro (tk:Option Nat) | (intro (K1:Kn _ _ _); (try clear K); rename Kn _ _ _ => K))); conv => whnf
  refine ⟨_, _, hm, ?_⟩
  conv => whnf
  refine kgo ?_; (repeat (first | intro (X:Nat) | intro (z:St) | intro (av:V) | intro (tk:Option Nat) | (intro (K1:Kn _ _ _); (try clear K); rename Kn _ _ _ => K))); conv => whnf
  cases hmay : mayM (psM p) p.2.2 <;> conv => whnf
  · rw [if_neg (by simp)]
    refine kgo ?_; (repeat (first | intro (X:Nat) | intro (z:St) | intro (av:V) | intro (tk:Option Nat) | (intro (K1:Kn _ _ _); (try clear K); rename Kn _ _ _ => K))); conv => whnf
    exact K.retR [.ag [.ns, .ns], .i .i64 4] ht hx (.tu _ (nm2 (mV_nm _ _) (.i _ _))) (.refl _) (.tus _ _ (.cons (.ag _ _ (.cons (.ns 4) (.cons (.ns 6) .nil))) (.cons (.one (.refl _)) .nil))) (by simpa [En.own] using hcl)
  · rw [K.get (w := true) .here]
    conv => whnf
    refine kgo ?_; (repeat (first | intro (X:Nat) | intro (z:St) | intro (av:V) | intro (tk:Option Nat) | (intro (K1:Kn _ _ _); (try clear K); rename Kn _ _ _ => K))); conv => whnf
    refine ⟨_, _, hc, ?_⟩
    conv => whnf
    refine kgo ?_; (repeat (first | intro (X:Nat) | intro (z:St) | intro (av:V) | intro (tk:Option Nat) | (intro (K1:Kn _ _ _); (try clear K); rename Kn _ _ _ => K))); conv => whnf
    by_cases hS2 : mtxt (psM p) p.2.2 = S
    · rw [show (mtxt (psM p) p.2.2 == S) = true from beq_iff_eq.2 hS2, if_pos ⟨rfl, hS2⟩]
      conv => whnf
      refine kgo ?_; (repeat (first | intro (X:Nat) | intro (z:St) | intro (av:V) | intro (tk:Option Nat) | (intro (K1:Kn _ _ _); (try clear K); rename Kn _ _ _ => K))); conv => whnf
      exact K.retR [.ag [pv, fsV p.2.2], .i .i64 0] ht hx (.tu _ (nm2 (mV_nm _ _) (.i _ _))) (rd_tu2 (show Rd _ (.ag [pv, fsV p.2.2]) (mV (psM p) p.2.2) from .ag _ _ rfl fun j hj => by
        match j, hj with
        | 0, _ => exact hrd _ _ _ K
        | 1, _ => exact .refl _)) (.one (.refl _)) (by simpa [En.own] using hcl)
    · rw [show (mtxt (psM p) p.2.2 == S) = false from beq_eq_false_iff_ne.2 hS2, if_neg (fun h => hS2 h.2)]
      conv => whnf
      refine kgo ?_; (repeat (first | intro (X:Nat) | intro (z:St) | intro (av:V) | intro (tk:Option Nat) | (intro (K1:Kn _ _ _); (try clear K); rename Kn _ _ _ => K))); conv => whnf
      exact K.retR [.ag [.ns, .ns], .i .i64 4] ht hx (.tu _ (nm2 (mV_nm _ _) (.i _ _))) (.refl _) (.tus _ _ (.cons (.ag _ _ (.cons (.ns 4) (.cons (.ns 6) .nil))) (.cons (.one (.refl _)) .nil))) (by simpa [En.own] using hcl)
end Go.Proofs.YtlhopiehnaabgaaGreatDoor
