/-
  Contract: a script's text, the document's. No statement stands here.
-/
import Derived.Test.YtbcapobkbgckbaaGreatDoorSrl
import Derived.Test.YtbcapobkbgckbaaGreatDoorWd
set_option linter.all false
namespace Go.Proofs.YtbcapobkbgckbaaGreatDoor
open Go Rf
set_option maxRecDepth 100000
set_option maxHeartbeats 4000000

def slR (l : List Ey) : V := .pu 4 (l.map eyV) .u
theorem txL_tak (l : List Ey) (i : Nat) : (txL (l.take i)).length ≤ (txL l).length := by
  conv => rhs; rw [← List.take_append_drop i l]
  unfold txL
  rw [List.flatMap_append, List.length_append]; omega
def ERt (l : List Ey) (t : List UInt8) (i : Nat) : List V := (slR l :: .bad :: .bad :: .s t :: .i .i64 (i : Nat) :: List.replicate 20 .bad)
theorem rtext_dn (l : List Ey) (he : ∀ e ∈ l, EyOk e) (hT : ∀ i, (∀ e ∈ l.take i, mayS e = true) → (txL (l.take i)).length ≤ 8000000) (hl : l.length ≤ 5000) (s : St) (hx : NoX s) : Den gt0 Tryz.prog 9 [slR l] s (.s (txS l)) s := by
  have hll : (l.map eyV).length = l.length := List.length_map ..
  refine Den.tidy fun ht => Den.hm gnm0 hF9 ?_
  have K := Kn.init ht.1 hx
  conv => whnf
  refine kgo ?_; (repeat (first | intro (X:Nat) | intro (z:St) | intro (av:V) | intro (tk:Option Nat) | (intro (K1:Kn _ _ _); (try clear K); rename Kn _ _ _ => K))); conv => whnf
  refine HM.loop gnm0 fun hg => ⟨fun m ev z' => ∃ i : Nat, i ≤ l.length ∧ m = l.length - i ∧ ev = ERt l (txL (l.take i)) i ∧ (∀ e ∈ l.take i, mayS e = true) ∧ Kn s z' [],
    ⟨l.length, fg [0, 3, 4] _, _, WkM.fg hg, 0, Nat.zero_le _, rfl, rfl, (fun e he => by simp at he), K⟩, ?_⟩
  clear K
  rintro m ev z1 ⟨i, hi, rfl, rfl, hm, K⟩
  have hstep : ∀ e, l[i]? = some e → txL (l.take (i + 1)) = txL (l.take i) ++ (lnS e ++ [10]) := fun e he => by
    unfold txL; rw [take_snoc_fl he]
  have htl := hT i hm
  have htl1 := hT (i + 1)
  obtain ⟨t, hend⟩ : ∃ t, txL (l.take i) = t := ⟨_, rfl⟩
  rw [hend] at hstep htl ⊢
  conv => whnf
  refine kgo ?_; (repeat (first | intro (X:Nat) | intro (z:St) | intro (av:V) | intro (tk:Option Nat) | (intro (K1:Kn _ _ _); (try clear K); rename Kn _ _ _ => K))); conv => whnf
  rw [hll]
  refine brL ⟨fun hlt => ?_, fun hge => ?_⟩ <;> conv => whnf
  · have hki : l[i]? = some l[i] := List.getElem?_eq_getElem hlt
    have hmem : l[i] ∈ l := List.getElem_mem hlt
    have hm1 : mayS l[i] = true → ∀ e ∈ l.take (i + 1), mayS e = true := fun h e he => by
      rw [List.take_add_one, hki] at he
      rcases List.mem_append.1 he with he | he
      · exact hm e he
      · simp at he; subst he; exact h
    generalize l[i] = e at hki hmem hm1
    have hstep2 := hstep e hki
    refine kgo ?_; (repeat (first | intro (X:Nat) | intro (z:St) | intro (av:V) | intro (tk:Option Nat) | (intro (K1:Kn _ _ _); (try clear K); rename Kn _ _ _ => K))); conv => whnf
    refine ⟨_, _, rmay_den e (he e hmem).2.2 _ K.x, ?_⟩
    cases hme : mayS e <;> conv => whnf
    · refine kgo ?_; (repeat (first | intro (X:Nat) | intro (z:St) | intro (av:V) | intro (tk:Option Nat) | (intro (K1:Kn _ _ _); (try clear K); rename Kn _ _ _ => K))); conv => whnf
      rw [show txS l = [] by
        unfold txS
        rw [if_neg fun h => by
          have := List.all_eq_true.1 h e hmem
          rw [hme] at this; cases this]]
      exact K.fin ht hx (.s _) (.refl _)
    obtain ⟨f, hf, hmf⟩ := mayS_some hme
    replace htl1 := htl1 (hm1 hme)
    rw [hstep2] at htl1
    rw [lnS_of hf] at hstep2 htl1
    rw [List.length_append] at htl1
    have hq : t.length + (lnF f e ++ [10]).length < 9223372036854775808 := by omega
    refine kgo ?_; (repeat (first | intro (X:Nat) | intro (z:St) | intro (av:V) | intro (tk:Option Nat) | (intro (K1:Kn _ _ _); (try clear K); rename Kn _ _ _ => K))); conv => whnf
    refine ⟨_, _, rline_den e f hf (he e hmem) (may_b hmf).1 (by have := (mayF_iff.1 hmf).2.2.2.2.2.1; omega) _ K.x, ?_⟩
    conv => whnf
    refine kgo ?_; (repeat (first | intro (X:Nat) | intro (z:St) | intro (av:V) | intro (tk:Option Nat) | (intro (K1:Kn _ _ _); (try clear K); rename Kn _ _ _ => K))); conv => whnf
    intro hg'
    exact ⟨l.length - (i + 1), fg [0, 3, 4] _, _, by omega, WkM.fg hg', i + 1, hlt, rfl, by rw [hstep2]; rfl, hm1 hme, K⟩
  · rw [List.take_of_length_le hge] at hm hend
    have hall : txS l = t := by
      unfold txS
      rw [if_pos (List.all_eq_true.2 hm), hend]
    rw [hall]
    refine kgo ?_; (repeat (first | intro (X:Nat) | intro (z:St) | intro (av:V) | intro (tk:Option Nat) | (intro (K1:Kn _ _ _); (try clear K); rename Kn _ _ _ => K))); conv => whnf
    exact K.fin ht hx (.s _) (.refl _)
theorem rtext_den (l : List Ey) (he : ∀ e ∈ l, EyOk e) (hb : ∀ e ∈ l, e.b.length ≤ 100000) (hT : (txL l).length ≤ 900000) (hl : l.length ≤ 5000) (s : St) (hx : NoX s) : Den gt0 Tryz.prog 9 [slR l] s (.s (txS l)) s :=
  rtext_dn l he (fun i _ => by have := txL_tak l i; omega) hl s hx
end Go.Proofs.YtbcapobkbgckbaaGreatDoor
