/-
  Contract: a script's text, the code's. No statement stands here.
-/
import Derived.Test.YtbcapobkbgckbaaGreatDoorSln
import Derived.Test.YtbcapobkbgckbaaGreatDoorBld
import Derived.Test.YtbcapobkbgckbaaGreatDoorWb
set_option linter.all false
namespace Go.Proofs.YtbcapobkbgckbaaGreatDoor
open Go Rf TallyP
set_option maxRecDepth 100000
set_option maxHeartbeats 4000000

theorem hG8 : cF gt1 Tryz.prog (wfa 8) 8 = some f8 := by kernel_rfl
theorem wrs1 {sb s : St} {A : List En} {B : Nat} {a : V} {bs : List UInt8} {o : Option Nat} {nx : V → St → Prop} (K : Kn sb s (A ++ bldL B a bs o)) (hX : NoX s) (hO : o = none ↔ bs = []) (ha : a = .np ∨ a = .p B 0) (str : List UInt8) (hl : bs.length + str.length ≤ 9000000)
    (h : ∀ z o', Kn sb z (A ++ bldL B (.p B 0) (bs ++ str) o') → (o' = none ↔ bs ++ str = []) → nx (.tu [.i .i64 (str.length : Nat), .ni]) z) : ∃ v s', Den gt1 Tryz.prog 17 [.p B 0, .s str] s v s' ∧ nx v s' := by
  obtain ⟨v, s', h1, h2⟩ := wrs K hX hO ha str hl h
  exact ⟨v, s', up0 h1, h2⟩
theorem bstr1 {sb s : St} {A : List En} {B : Nat} {a : V} {bs : List UInt8} {o : Option Nat} {nx : V → St → Prop} (K : Kn sb s (A ++ bldL B a bs o)) (hO : o = none ↔ bs = []) (hl : bs.length ≤ 9000000)
    (h : ∀ z L', Kn sb z (A ++ .ob true B (bldO a (vO bs o)) :: L') → L'.all En.own = true → nx (.s bs) z) : ∃ v s', Den gt1 Tryz.prog 19 [.p B 0] s v s' ∧ nx v s' := by
  obtain ⟨v, s', h1, h2⟩ := bstr K hO hl h
  exact ⟨v, s', up0 h1, h2⟩
def slV (l : List Ey) : V := .pu 4 (l.map eyV) .u
theorem txL_take (l : List Ey) (i : Nat) : (txL (l.take i)).length ≤ (txL l).length := by
  conv => rhs; rw [← List.take_append_drop i l]
  unfold txL
  rw [List.flatMap_append, List.length_append]; omega
def ETx (l : List Ey) (B i : Nat) : List V := (.bad :: .bad :: .bad :: .p B 0 :: .bad :: .bad :: slV l :: .i .i64 (l.length : Nat) :: .i .i64 (i : Nat) :: List.replicate 11 .bad)
theorem text_dn (l : List Ey) (he : ∀ e ∈ l, EyOk e) (hT : ∀ i, (∀ e ∈ l.take i, mayS e = true) → (txL (l.take i)).length ≤ 8000000) (hl : l.length ≤ 1000) (s : St) (hx : NoX s) : Den gt1 Tryz.prog 8 [slV l] s (.s (txS l)) s := by
  have hll : (l.map eyV).length = l.length := List.length_map ..
  refine Den.tidy fun ht => Den.hm gnm1 hG8 ?_
  have K := Kn.init ht.1 hx
  conv => whnf
  refine kgo ?_; (repeat (first | intro (X:Nat) | intro (z:St) | intro (av:V) | intro (tk:Option Nat) | (intro (K1:Kn _ _ _); (try clear K); rename Kn _ _ _ => K))); conv => whnf
  rw [hll]
  revert X; intro B K
  replace K : Kn s z (bldL B .np (txL (l.take 0)) none) := K
  refine HM.loop gnm1 fun hg => ⟨fun m ev z' => ∃ (i : Nat) (o : Option Nat) (a : V), i ≤ l.length ∧ m = l.length - i ∧ ev = ETx l B i ∧ (∀ e ∈ l.take i, mayS e = true) ∧ (a = .np ∨ a = .p B 0) ∧ (o = none ↔ txL (l.take i) = []) ∧ Kn s z' (bldL B a (txL (l.take i)) o),
    ⟨l.length, fg [3, 6, 7, 8] _, _, WkM.fg hg, 0, none, .np, Nat.zero_le _, rfl, rfl, (fun e he => by simp at he), .inl rfl, ⟨fun _ => rfl, fun _ => rfl⟩, K⟩, ?_⟩
  clear K
  rintro m ev z1 ⟨i, o, a, hi, rfl, rfl, hm, ha, hO, K⟩
  have hstep : ∀ e, l[i]? = some e → txL (l.take (i + 1)) = txL (l.take i) ++ (lnS e ++ [10]) := fun e he => by
    unfold txL; rw [take_snoc_flat he]
  have htl := hT i hm
  have htl1 := hT (i + 1)
  obtain ⟨t, hend⟩ : ∃ t, txL (l.take i) = t := ⟨_, rfl⟩
  rw [hend] at hO K hstep htl
  conv => whnf
  refine kgo ?_; (repeat (first | intro (X:Nat) | intro (z:St) | intro (av:V) | intro (tk:Option Nat) | (intro (K1:Kn _ _ _); (try clear K); rename Kn _ _ _ => K))); conv => whnf
  refine brL ⟨fun hlt => ?_, fun hge => ?_⟩ <;> conv => whnf
  · have hki : l[i]? = some l[i] := List.getElem?_eq_getElem hlt
    have hmem : l[i] ∈ l := List.getElem_mem hlt
    have hm1 : mayS l[i] = true → ∀ e ∈ l.take (i + 1), mayS e = true := fun h e he => by
      rw [List.take_add_one, hki] at he
      rcases List.mem_append.1 he with he | he
      · exact hm e he
      · simp at he; subst he; exact h
    generalize l[i] = e at hki hmem hm1
    have hstep2 := hstep e hki
    refine kgo ?_; (repeat (first | intro (X:Nat) | intro (z:St) | intro (av:V) | intro (tk:Option Nat) | (intro (K1:Kn _ _ _); (try clear K); rename Kn _ _ _ => K))); conv => whnf
    have hX : NoX z := K.x (by cases o <;> rfl)
    refine ⟨_, _, up0 (may_den e z hX), ?_⟩
    cases hme : mayS e <;> conv => whnf
    · refine kgo ?_; (repeat (first | intro (X:Nat) | intro (z:St) | intro (av:V) | intro (tk:Option Nat) | (intro (K1:Kn _ _ _); (try clear K); rename Kn _ _ _ => K))); conv => whnf
      rw [show txS l = [] by
        unfold txS
        rw [if_neg fun h => by
          have := List.all_eq_true.1 h e hmem
          rw [hme] at this; cases this]]
      exact K.fin ht hx (.s _) (.refl _) (by cases o <;> rfl)
    obtain ⟨f, hf, hmf⟩ := mayS_some hme
    replace htl1 := htl1 (hm1 hme)
    rw [hstep2] at htl1
    refine kgo ?_; (repeat (first | intro (X:Nat) | intro (z:St) | intro (av:V) | intro (tk:Option Nat) | (intro (K1:Kn _ _ _); (try clear K); rename Kn _ _ _ => K))); conv => whnf
    refine ⟨_, _, line_den e f hf (he e hmem) (by have := (mayF_iff.1 hmf).2.2.2.2.2.1; omega) z hX, ?_⟩
    conv => whnf
    refine kgo ?_; (repeat (first | intro (X:Nat) | intro (z:St) | intro (av:V) | intro (tk:Option Nat) | (intro (K1:Kn _ _ _); (try clear K); rename Kn _ _ _ => K))); conv => whnf
    rw [lnS_of hf] at hstep2 htl1
    refine wrs1 (A := [_]) K hX hO ha _ (by rw [List.length_append] at htl1; omega) fun z o K1 hO1 => ?_
    clear K hO; rename Kn _ _ _ => K; rename _ ↔ _ => hO
    conv => whnf
    refine kgo ?_; (repeat (first | intro (X:Nat) | intro (z:St) | intro (av:V) | intro (tk:Option Nat) | (intro (K1:Kn _ _ _); (try clear K); rename Kn _ _ _ => K))); conv => whnf
    intro hg'
    exact ⟨l.length - (i + 1), fg [3, 6, 7, 8] _, _, by omega, WkM.fg hg', i + 1, o, .p B 0, hlt, rfl, rfl, hm1 hme, .inr rfl, by rw [hstep2]; exact hO, by rw [hstep2]; exact K.drop0 rfl⟩
  · rw [List.take_of_length_le hge] at hm hend
    have hall : txS l = t := by
      unfold txS
      rw [if_pos (List.all_eq_true.2 hm), hend]
    rw [hall]
    refine kgo ?_; (repeat (first | intro (X:Nat) | intro (z:St) | intro (av:V) | intro (tk:Option Nat) | (intro (K1:Kn _ _ _); (try clear K); rename Kn _ _ _ => K))); conv => whnf
    refine bstr1 (A := []) K hO (by omega) fun z L' K1 hL => ?_
    clear K; rename Kn _ _ _ => K
    conv => whnf
    refine kgo ?_; (repeat (first | intro (X:Nat) | intro (z:St) | intro (av:V) | intro (tk:Option Nat) | (intro (K1:Kn _ _ _); (try clear K); rename Kn _ _ _ => K))); conv => whnf
    exact K.fin ht hx (.s _) (.refl _) (by simp [En.own, hL])
theorem text_den (l : List Ey) (he : ∀ e ∈ l, EyOk e) (hb : ∀ e ∈ l, e.b.length ≤ 100000) (hT : (txL l).length ≤ 900000) (hl : l.length ≤ 1000) (s : St) (hx : NoX s) : Den gt1 Tryz.prog 8 [slV l] s (.s (txS l)) s :=
  text_dn l he (fun i _ => by have := txL_take l i; omega) hl s hx
end Go.Proofs.YtbcapobkbgckbaaGreatDoor
