/-
  Contracts: the busiest process. No statement stands here.
-/
import Derived.Test.YthoojnjcdllgdaaGreatDoorTsm
import Derived.Test.YthoojnjcdllgdaaGreatDoorCodeT
set_option linter.all false
namespace Go.Proofs.YthoojnjcdllgdaaGreatDoor
open Go Rf TallyP
set_option maxRecDepth 100000
set_option maxHeartbeats 4000000

def pickP (b : Option RwP) (x : RwP) : Option RwP := match b with
  | none => some x
  | some y => if ltZ y.2.1 x.2.1 = true then some x else some y
def busy (l : List RwP) : Option RwP := l.foldl pickP none
def cmpZ (a b : Int) : Int := if ltZ a b = true then -1 else if ltZ b a = true then 1 else 0
theorem nan_den (a : Int) : PDen gt0 Tryz.prog 59 [.i .i64 a] (.b false) := by
  refine PDen.hc gnm0 hF59 (fun x hx => by simp at hx; subst hx; exact .i _ _) (.b _) ?_
  conv => whnf
  refine sgo ?_
  rw [show eqZ a a = true by rw [eqZ_eq]; simp]; rfl
theorem cmp43_den (a b : Int) : PDen gt0 Tryz.prog 43 [.i .i64 a, .i .i64 b] (.i .i64 (cmpZ a b)) := by
  refine PDen.hc gnm0 hF43 (fun x hx => by simp at hx; rcases hx with rfl | rfl <;> exact .i _ _) (.i _ _) ?_
  conv => whnf
  refine sgo ?_
  refine ⟨_, _, nan_den a _, ?_⟩
  conv => whnf
  refine sgo ?_
  refine ⟨_, _, nan_den b _, ?_⟩
  conv => whnf
  refine sgo ?_
  unfold cmpZ
  cases h1 : ltZ a b <;> conv => whnf
  · refine sgo ?_
    cases h2 : ltZ b a <;> conv => whnf
    · refine sgo ?_
      rfl
    · refine sgo ?_
      rfl
  · refine sgo ?_
    rfl
theorem cmpZ_pos (a b : Int) : ltZ 0 (cmpZ a b) = ltZ b a := by
  unfold cmpZ
  cases h1 : ltZ a b <;> cases h2 : ltZ b a <;> simp only [if_true, if_false, Bool.false_eq_true] <;> first | rfl | decide | skip
  rw [ltZ_eq] at h1 h2
  simp at h1 h2
  omega
theorem csP_nm {n : Nat → Prop} (x : RwP) : Nm n (.ag (csP x)) := .ag _ fun c hc => by
  simp only [csP, List.mem_cons, List.not_mem_nil, or_false] at hc
  rcases hc with rfl | rfl | rfl | rfl | rfl <;> exact .i _ _
theorem b42_den (x y : RwP) : PDen gt0 Tryz.prog 42 [.ag (csP x), .ag (csP y)] (.i .i64 (cmpZ x.2.1 y.2.1)) := by
  have h : Den gt0 Tryz.prog 42 [.ag (csP x), .ag (csP y)] s0 (.i .i64 (cmpZ x.2.1 y.2.1)) s0 := by
    refine Den.tidy fun hty => Den.hm gnm0 hF42 ?_
    have K := Kn.init hty.1 nox0
    conv => whnf
    refine kgo ?_; (repeat (first | intro (X:Nat) | intro (z:St) | intro (av:V) | intro (tk:Option Nat) | (intro (K1:Kn _ _ _); (try clear K); rename Kn _ _ _ => K))); conv => whnf
    refine ⟨_, _, cmp43_den _ _ _, ?_⟩
    conv => whnf
    refine kgo ?_; (repeat (first | intro (X:Nat) | intro (z:St) | intro (av:V) | intro (tk:Option Nat) | (intro (K1:Kn _ _ _); (try clear K); rename Kn _ _ _ => K))); conv => whnf
    exact K.fin hty nox0 (.i _ _) (.refl _)
  exact Den.pure gnm0 (fun v hv => by
    simp at hv
    rcases hv with rfl | rfl <;> exact csP_nm _) (.i _ _) h
def EMx (l : List RwP) (A B i : Nat) : List V := (.pu 5 (l.map fun x => .ag (csP x)) .u :: .fn 42 [] :: .bad :: .bad :: .p A 0 :: .p B 0 :: .i .i64 (i : Nat) :: List.replicate 26 .bad)
theorem max41_den (l : List RwP) (y : RwP) (hb : busy l = some y) (hl : l.length ≤ 100000) (s : St) (hx : NoX s) : Den gt0 Tryz.prog 41 [.pu 5 (l.map fun x => .ag (csP x)) .u, .fn 42 []] s (.ag (csP y)) s := by
  have hll : (l.map fun x => V.ag (csP x)).length = l.length := List.length_map ..
  have hpos : 0 < l.length := by
    rcases Nat.eq_zero_or_pos l.length with h | h
    · rw [List.eq_nil_of_length_eq_zero h] at hb; cases hb
    · exact h
  have hx0 : l[0]? = some l[0] := List.getElem?_eq_getElem hpos
  have hb1 : busy (l.take 1) = some l[0] := by
    cases l with
    | nil => simp at hpos
    | cons a r => rfl
  generalize l[0] = x0 at hx0 hb1
  have hm0 : (l.map fun x => V.ag (csP x))[(0 : Int).toNat]? = some (.ag (csP x0)) := by simp [hx0]
  refine Den.tidy fun hty => Den.hm gnm0 hF41 ?_
  have K := Kn.init hty.1 hx
  conv => whnf
  refine kgo ?_; (repeat (first | intro (X:Nat) | intro (z:St) | intro (av:V) | intro (tk:Option Nat) | (intro (K1:Kn _ _ _); (try clear K); rename Kn _ _ _ => K))); conv => whnf
  rw [hll, show ltZ ((l.length : Nat) : Int) 1 = false by rw [ltZ_eq]; simp; omega]
  conv => whnf
  refine kgo ?_; (repeat (first | intro (X:Nat) | intro (z:St) | intro (av:V) | intro (tk:Option Nat) | (intro (K1:Kn _ _ _); (try clear K); rename Kn _ _ _ => K))); conv => whnf
  have hstep : ∀ i x, l[i]? = some x → busy (l.take (i + 1)) = pickP (busy (l.take i)) x := fun i x h => by
    unfold busy
    rw [List.take_add_one, h, List.foldl_append]; rfl
  rename_i A _ _
  obtain ⟨B, hB⟩ : ∃ B, B = X := ⟨_, rfl⟩
  rw [← hB] at K ⊢
  refine HM.loop gnm0 fun hg => ⟨fun n e z => ∃ (i : Nat) (x : RwP), 1 ≤ i ∧ i ≤ l.length ∧ n = l.length - i ∧ e = EMx l A B i ∧ busy (l.take i) = some x ∧ Kn s z [.ob true B (.c (csP x) 0 (some 67)), .ob true A (.c [.i .i64 0, .i .i64 0, .i .i64 0, .i .i64 0, .i .i64 0] 0 (some 67))],
    ⟨l.length - 1, fg [0, 1, 4, 5, 6] _, _, WkM.fg hg, 1, x0, Nat.le_refl _, hpos, rfl, rfl, hb1, K⟩, ?_⟩
  clear K
  rintro n e z1 ⟨i, x, h1, hi, rfl, rfl, hbx, K⟩
  unfold csP at K
  conv => whnf
  refine kgo ?_; (repeat (first | intro (X:Nat) | intro (z:St) | intro (av:V) | intro (tk:Option Nat) | (intro (K1:Kn _ _ _); (try clear K); rename Kn _ _ _ => K))); conv => whnf
  rw [hll]
  refine brL ⟨fun hlt => ?_, fun hge => ?_⟩ <;> conv => whnf
  · have hxi : l[i]? = some l[i] := List.getElem?_eq_getElem hlt
    generalize l[i] = w at hxi
    have hmi : (l.map fun x => V.ag (csP x))[((i : Nat) : Int).toNat]? = some (.ag (csP w)) := by simp [hxi]
    have hst := hstep i w hxi
    rw [hbx] at hst
    refine kgo ?_; (repeat (first | intro (X:Nat) | intro (z:St) | intro (av:V) | intro (tk:Option Nat) | (intro (K1:Kn _ _ _); (try clear K); rename Kn _ _ _ => K))); conv => whnf
    refine ⟨by kernel_rfl, _, _, b42_den w x _, ?_⟩
    conv => whnf
    refine kgo ?_; (repeat (first | intro (X:Nat) | intro (z:St) | intro (av:V) | intro (tk:Option Nat) | (intro (K1:Kn _ _ _); (try clear K); rename Kn _ _ _ => K))); conv => whnf
    rw [cmpZ_pos]
    cases hc : ltZ x.2.1 w.2.1 <;> conv => whnf
    · refine kgo ?_; (repeat (first | intro (X:Nat) | intro (z:St) | intro (av:V) | intro (tk:Option Nat) | (intro (K1:Kn _ _ _); (try clear K); rename Kn _ _ _ => K))); conv => whnf
      intro hg'
      exact ⟨l.length - (i + 1), fg [0, 1, 4, 5, 6] _, _, by omega, WkM.fg hg', i + 1, x, by omega, hlt, rfl, rfl, by rw [hst]; show (if ltZ x.2.1 w.2.1 = true then some w else some x) = _; rw [hc]; rfl, K⟩
    · refine kgo ?_; (repeat (first | intro (X:Nat) | intro (z:St) | intro (av:V) | intro (tk:Option Nat) | (intro (K1:Kn _ _ _); (try clear K); rename Kn _ _ _ => K))); conv => whnf
      intro hg'
      exact ⟨l.length - (i + 1), fg [0, 1, 4, 5, 6] _, _, by omega, WkM.fg hg', i + 1, w, by omega, hlt, rfl, rfl, by rw [hst]; show (if ltZ x.2.1 w.2.1 = true then some w else some x) = _; rw [hc]; rfl, K⟩
  · rw [List.take_of_length_le hge, hb] at hbx
    cases hbx
    refine kgo ?_; (repeat (first | intro (X:Nat) | intro (z:St) | intro (av:V) | intro (tk:Option Nat) | (intro (K1:Kn _ _ _); (try clear K); rename Kn _ _ _ => K))); conv => whnf
    exact K.ret [.ag (csP y)] hty hx (csP_nm _) (.refl _)
theorem busy_none {l : List RwP} : busy l = none → l = [] := by
  have h : ∀ (l : List RwP) (b : Option RwP), l.foldl pickP b = none → b = none ∧ l = [] := by
    intro l
    induction l with
    | nil => intro b h; exact ⟨h, rfl⟩
    | cons x r ih =>
      intro b h
      obtain ⟨h1, -⟩ := ih _ h
      exfalso
      cases b with
      | none => cases h1
      | some y =>
        unfold pickP at h1
        simp only at h1
        split at h1 <;> cases h1
  exact fun hb => (h l none hb).2
def busyV (l : List RwP) : V := .tu (match busy l with
  | none => [.i .i64 0, .b false]
  | some x => [.i .i64 x.1, .b true])
theorem busyV_nm {n : Nat → Prop} (l : List RwP) : Nm n (busyV l) := by
  unfold busyV
  cases busy l <;> refine .tu _ fun c hc => ?_ <;> simp only [List.mem_cons, List.not_mem_nil, or_false] at hc <;> rcases hc with rfl | rfl
  · exact .i _ _
  · exact .b _
  · exact .i _ _
  · exact .b _
theorem bus15_den (ms : List Mv) (hms : ms.length ≤ 1000) (hn : ∀ m ∈ ms, Nm s0.L m.v) (hw : ∀ m ∈ ms, m.wf) (hP : (refP (evs ms)).length ≤ 100000) (s : St) (hx : NoX s) :
    Den gt0 Tryz.prog 15 [.pu 47 (ms.map Mv.v) .u] s (busyV (refP (evs ms))) s := by
  refine Den.tidy fun hty => Den.hm gnm0 hF15 ?_
  have K := Kn.init hty.1 hx
  conv => whnf
  refine kgo ?_; (repeat (first | intro (X:Nat) | intro (z:St) | intro (av:V) | intro (tk:Option Nat) | (intro (K1:Kn _ _ _); (try clear K); rename Kn _ _ _ => K))); conv => whnf
  refine ⟨_, _, talPw_den ms hms hn hw _ K.x, ?_⟩
  generalize refP (evs ms) = l at hP ⊢
  have hll : (l.map fun x => V.ag (csP x)).length = l.length := List.length_map ..
  conv => whnf
  refine kgo ?_; (repeat (first | intro (X:Nat) | intro (z:St) | intro (av:V) | intro (tk:Option Nat) | (intro (K1:Kn _ _ _); (try clear K); rename Kn _ _ _ => K))); conv => whnf
  rw [hll]
  cases hb : busy l with
  | none =>
    have h0 := busy_none hb
    subst h0
    conv => whnf
    refine kgo ?_; (repeat (first | intro (X:Nat) | intro (z:St) | intro (av:V) | intro (tk:Option Nat) | (intro (K1:Kn _ _ _); (try clear K); rename Kn _ _ _ => K))); conv => whnf
    exact K.fin hty hx (busyV_nm []) (.refl _)
  | some y =>
    have hne : eqZ ((l.length : Nat) : Int) 0 = false := by
      rw [eqZ_eq]
      cases l with
      | nil => cases hb
      | cons a r => simp; omega
    rw [hne]
    conv => whnf
    refine kgo ?_; (repeat (first | intro (X:Nat) | intro (z:St) | intro (av:V) | intro (tk:Option Nat) | (intro (K1:Kn _ _ _); (try clear K); rename Kn _ _ _ => K))); conv => whnf
    refine ⟨_, _, max41_den l y hb hP _ K.x, ?_⟩
    have hbn := busyV_nm (n := s.L) l
    unfold busyV at hbn ⊢
    rw [hb] at hbn ⊢
    conv => whnf
    refine kgo ?_; (repeat (first | intro (X:Nat) | intro (z:St) | intro (av:V) | intro (tk:Option Nat) | (intro (K1:Kn _ _ _); (try clear K); rename Kn _ _ _ => K))); conv => whnf
    exact K.fin hty hx hbn (.refl _)
end Go.Proofs.YthoojnjcdllgdaaGreatDoor
