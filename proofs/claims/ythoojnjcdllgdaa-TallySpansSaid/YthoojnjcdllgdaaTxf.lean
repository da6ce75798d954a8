/-
  Contracts: lengths that are none. No statement stands here.
-/
import Derived.Test.YthoojnjcdllgdaaTxd
import Derived.Test.YthoojnjcdllgdaaTkn
import Derived.Test.YthoojnjcdllgdaaTmu
import Derived.Test.YthoojnjcdllgdaaCode3
set_option linter.all false
namespace Go.Proofs.Ythoojnjcdllgdaa
open Go Rf TallyP
set_option maxRecDepth 100000
set_option maxHeartbeats 4000000

theorem none_nm {n : Nat → Prop} : Nm n (.tu [.pu 3 [] .u, .i .i64 2]) := .tu _ fun c hc => by
  simp only [List.mem_cons, List.not_mem_nil, or_false] at hc
  rcases hc with rfl | rfl
  · exact .pu _ _ _ (fun v hv => by cases hv) (fun k hk => by cases hk)
  · exact .i _ _
theorem spans8_no (a : V) (len : Int) (hl : ltZ len 1 = true) (s : St) (hx : NoX s) : Den gt0 Try.prog 8 [a, .i .i64 len] s (.tu [.pu 3 [] .u, .i .i64 2]) s := by
  refine Den.tidy fun hty => Den.hm gnm0 hF8 ?_
  have K := Kn.init hty.1 hx
  conv => whnf
  refine kgo ?_; (repeat (first | intro (X:Nat) | intro (z:St) | intro (av:V) | intro (tk:Option Nat) | (intro (K1:Kn _ _ _); (try clear K); rename Kn _ _ _ => K))); conv => whnf
  rw [hl]
  conv => whnf
  refine kgo ?_; (repeat (first | intro (X:Nat) | intro (z:St) | intro (av:V) | intro (tk:Option Nat) | (intro (K1:Kn _ _ _); (try clear K); rename Kn _ _ _ => K))); conv => whnf
  exact K.fin hty hx none_nm (.tus _ _ (.cons (.one (.ns 3)) (.cons (.one (.refl _)) .nil)))
theorem spans9_no (a : V) (len : Int) (hl : ltZ len 1 = true) (s : St) (hx : NoX s) : Den gt0 Try.prog 9 [a, .i .i64 len] s (.tu [.pu 3 [] .u, .i .i64 2]) s := by
  refine Den.tidy fun hty => Den.hm gnm0 hF9m ?_
  have K := Kn.init hty.1 hx
  conv => whnf
  refine kgo ?_; (repeat (first | intro (X:Nat) | intro (z:St) | intro (av:V) | intro (tk:Option Nat) | (intro (K1:Kn _ _ _); (try clear K); rename Kn _ _ _ => K))); conv => whnf
  rw [hl]
  conv => whnf
  refine kgo ?_; (repeat (first | intro (X:Nat) | intro (z:St) | intro (av:V) | intro (tk:Option Nat) | (intro (K1:Kn _ _ _); (try clear K); rename Kn _ _ _ => K))); conv => whnf
  exact K.fin hty hx none_nm (.tus _ _ (.cons (.one (.ns 3)) (.cons (.one (.refl _)) .nil)))
def rwV (x : Rw2) : V := .ag (c3 x)
theorem rw_sp (l : List Rw2) : l.map rwV = (l.map fun x => ((x.1, x.2.1, x.2.2, 0, 0) : Int × Sm)).map spV := by
  rw [List.map_map]; rfl
theorem sp_rw (len : Int) (ms : List Mv) : (spR (gaI (fun m => fromW len m.t) ms)).map spV = (refR len (evs ms)).map rwV := by
  rw [← rows_same, List.map_map]; rfl
theorem spans8w_den (ms : List Mv) (len : Int) (hl : 0 < len) (hl2 : len ≤ 4503599627370496) (hms : ms.length ≤ 1000) (hn : ∀ m ∈ ms, Nm s0.L m.v) (ht : ∀ m ∈ ms, -1152921504606846976 ≤ m.t ∧ m.t ≤ 1152921504606846976) (s : St) (hx : NoX s) :
    Den gt0 Try.prog 8 [.pu 47 (ms.map Mv.v) .u, .i .i64 len] s (.tu [.pu 3 ((refR len (evs ms)).map rwV) .u, .i .i64 0]) s := by
  have h := spans8_den ms len hl hl2 hms hn ht s hx
  rwa [sp_rw] at h
theorem same10w_den (l : List Rw2) (hl : l.length ≤ 100000) (s : St) (hx : NoX s) : Den gt0 Try.prog 10 [.pu 3 (l.map rwV) .u, .pu 3 (l.map rwV) .u] s (.b true) s := by
  rw [rw_sp]
  exact same10_den _ (by rw [List.length_map]; exact hl) s hx
end Go.Proofs.Ythoojnjcdllgdaa
