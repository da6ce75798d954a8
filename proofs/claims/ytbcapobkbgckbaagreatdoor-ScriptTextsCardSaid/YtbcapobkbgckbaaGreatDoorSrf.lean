/-
  Contract: a script's text is read, the document's way. No statement stands here.
-/
import Derived.Test.YtbcapobkbgckbaaGreatDoorSro
set_option linter.all false
namespace Go.Proofs.YtbcapobkbgckbaaGreatDoor
open Go Rf
set_option maxRecDepth 100000
set_option maxHeartbeats 4000000

def rdAll : List (List UInt8) → Option (List Ey)
  | [] => some []
  | l :: ls => match rdC l with
    | none => none
    | some e => (rdAll ls).map (e :: ·)
theorem ofL_app (t : List UInt8) : ∀ ls : List (List UInt8), ofL (ls ++ [t]) = match rdAll ls with
    | none => none
    | some out => if t = [] then some out else none
  | [] => by
    show ofL [t] = _
    unfold ofL rdAll
    rw [if_pos rfl]
  | l :: ls => by
    have ih := ofL_app t ls
    show ofL (l :: (ls ++ [t])) = _
    unfold ofL rdAll
    rw [if_neg (by simp), ih]
    cases rdC l with
    | none => rfl
    | some e =>
      cases rdAll ls with
      | none => rfl
      | some out =>
        by_cases ht : t = []
        · simp [ht]
        · simp [ht]
theorem ofS_all (S : List UInt8) : ofS S = match rdAll (cutL 10 S).dropLast with
    | none => none
    | some out => if whB S = true then some out else none := by
  have h := cutL_ne 10 S
  have e : cutL 10 S = (cutL 10 S).dropLast ++ [(cutL 10 S).getLastD []] := by
    rw [List.getLastD_eq_getLast?, List.getLast?_eq_some_getLast h]
    exact (List.dropLast_concat_getLast h).symm
  unfold ofS
  conv => lhs; rw [e]
  rw [ofL_app]
  unfold whB
  simp only [decide_eq_true_eq]
def slQ (l : List Ey) : V := .pu 4 (l.map eyV) .u
def rofV : Option (List Ey) → V
  | some w => .tu [slQ w, .b true]
  | none => .tu [slQ [], .b false]
theorem slQ_nm {L : Nat → Prop} (l : List Ey) : Nm L (slQ l) := .pu _ _ _ (fun v hv => by
  obtain ⟨x, -, rfl⟩ := List.mem_map.1 hv
  exact .ag _ fun c hc => by
    simp only [List.mem_cons, List.not_mem_nil, or_false] at hc
    rcases hc with rfl | rfl | rfl | rfl
    · exact .i _ _
    · exact .i _ _
    · exact .i _ _
    · exact .pu _ _ _ (fun v hv => by
        obtain ⟨x, -, rfl⟩ := List.mem_map.1 hv; exact .i _ _) (fun k hk => by cases hk)) (fun k hk => by cases hk)
def ERf (ls : List (List UInt8)) (w : Bool) (ov : V) (i : Nat) : List V := (.bad :: .bad :: .ns :: .b false :: .pu 1 (ls.map V.s) .u :: .b w :: ov :: .i .i64 (i : Nat) :: List.replicate 30 .bad)
theorem rof_den (S : List UInt8) (hS : S.length ≤ 5000) (s : St) (hx : NoX s) : Den gt0 Tryz.prog 13 [.s S] s (rofV (ofS S)) s := by
  refine Den.tidy fun ht => Den.hm gnm0 hF13 ?_
  have K := Kn.init ht.1 hx
  conv => whnf
  refine kgo ?_; (repeat (first | intro (X:Nat) | intro (z:St) | intro (av:V) | intro (tk:Option Nat) | (intro (K1:Kn _ _ _); (try clear K); rename Kn _ _ _ => K))); conv => whnf
  refine ⟨_, _, lines_den S hS _ K.x, ?_⟩
  have hof := ofS_all S
  have hel : ∀ l ∈ (cutL 10 S).dropLast, l.length ≤ 5000 := fun l hl => Nat.le_trans (cutL_el 10 S l (List.dropLast_subset _ hl)) hS
  have hll : (cutL 10 S).dropLast.length ≤ 5001 := by
    have := cutL_len 10 S
    rw [List.length_dropLast]; omega
  generalize (cutL 10 S).dropLast = ls at hof hel hll
  have hlm : (ls.map V.s).length = ls.length := List.length_map ..
  conv => whnf
  refine kgo ?_; (repeat (first | intro (X:Nat) | intro (z:St) | intro (av:V) | intro (tk:Option Nat) | (intro (K1:Kn _ _ _); (try clear K); rename Kn _ _ _ => K))); conv => whnf
  have K1 := K.acc0 4
  clear K; rename Kn _ _ _ => K
  refine HM.loop gnm0 fun hg => ⟨fun m ev z' => ∃ (i : Nat) (out : List Ey) (ov : V) (tk : Option Nat), i ≤ ls.length ∧ m = ls.length - i ∧ ev = ERf ls (whB S) ov i ∧ out.length ≤ i ∧ rdAll ls = (rdAll (ls.drop i)).map (out ++ ·) ∧ Kn s z' [.ac 4 ov (out.map eyV) tk],
    ⟨ls.length, fg [2, 3, 4, 5, 6, 7] _, _, WkM.fg hg, 0, [], .ns, none, Nat.zero_le _, rfl, rfl, Nat.le_refl _, by simp, K⟩, ?_⟩
  clear K
  rintro m ev z1 ⟨i, out, ov, tk, hi, rfl, rfl, hol, hr, K⟩
  have hob : (out.map eyV).length ≤ 60000 := by rw [List.length_map]; omega
  conv => whnf
  refine kgo ?_; (repeat (first | intro (X:Nat) | intro (z:St) | intro (av:V) | intro (tk:Option Nat) | (intro (K1:Kn _ _ _); (try clear K); rename Kn _ _ _ => K))); conv => whnf
  rw [hlm]
  refine brL ⟨fun hlt => ?_, fun hge => ?_⟩ <;> conv => whnf
  · have hli : ls[i]? = some ls[i] := List.getElem?_eq_getElem hlt
    have hl5 := hel ls[i] (List.getElem_mem hlt)
    rw [List.drop_eq_getElem_cons hlt, rdAll] at hr
    generalize ls[i] = l at hli hl5 hr
    refine kgo ?_; (repeat (first | intro (X:Nat) | intro (z:St) | intro (av:V) | intro (tk:Option Nat) | (intro (K1:Kn _ _ _); (try clear K); rename Kn _ _ _ => K))); conv => whnf
    refine ⟨_, _, one_den l hl5 _ K.x, ?_⟩
    rw [rd_same]
    cases hrd : rdC l with
    | none =>
      rw [hrd] at hr
      rw [show ofS S = none by rw [hof, show rdAll ls = none by rw [hr]; rfl]]
      conv => whnf
      refine kgo ?_; (repeat (first | intro (X:Nat) | intro (z:St) | intro (av:V) | intro (tk:Option Nat) | (intro (K1:Kn _ _ _); (try clear K); rename Kn _ _ _ => K))); conv => whnf
      exact K.fin ht hx (.tu _ (nm2 (slQ_nm []) (.b _))) (.tu _ _ (.cons (.ns _) (.cons (.refl _) .nil)))
    | some e =>
      rw [hrd] at hr
      conv => whnf
      refine kgo ?_; (repeat (first | intro (X:Nat) | intro (z:St) | intro (av:V) | intro (tk:Option Nat) | (intro (K1:Kn _ _ _); (try clear K); rename Kn _ _ _ => K))); conv => whnf
      intro hg'
      exact ⟨ls.length - (i + 1), fg [2, 3, 4, 5, 6, 7] _, _, by omega, WkM.fg hg', i + 1, out ++ [e], av, tk, hlt, rfl, rfl, by simp; omega, by rw [hr]; cases rdAll (ls.drop (i + 1)) <;> simp, (K.drop0 rfl).cast (by rw [List.map_append]; rfl)⟩
  · rw [List.drop_of_length_le hge] at hr
    have hro : rdAll ls = some out := by rw [hr]; simp [rdAll]
    refine kgo ?_; (repeat (first | intro (X:Nat) | intro (z:St) | intro (av:V) | intro (tk:Option Nat) | (intro (K1:Kn _ _ _); (try clear K); rename Kn _ _ _ => K))); conv => whnf
    cases hw : whB S <;> conv => whnf
    · rw [show ofS S = none by rw [hof, hro, hw]; rfl]
      refine kgo ?_; (repeat (first | intro (X:Nat) | intro (z:St) | intro (av:V) | intro (tk:Option Nat) | (intro (K1:Kn _ _ _); (try clear K); rename Kn _ _ _ => K))); conv => whnf
      exact K.fin ht hx (.tu _ (nm2 (slQ_nm []) (.b _))) (.tu _ _ (.cons (.ns _) (.cons (.refl _) .nil)))
    · rw [show ofS S = some out by rw [hof, hro, hw]; rfl]
      refine kgo ?_; (repeat (first | intro (X:Nat) | intro (z:St) | intro (av:V) | intro (tk:Option Nat) | (intro (K1:Kn _ _ _); (try clear K); rename Kn _ _ _ => K))); conv => whnf
      exact K.fin ht hx (.tu _ (nm2 (slQ_nm _) (.b _))) (.tu _ _ (.cons (K.vw .here) (.cons (.refl _) .nil)))
end Go.Proofs.YtbcapobkbgckbaaGreatDoor
