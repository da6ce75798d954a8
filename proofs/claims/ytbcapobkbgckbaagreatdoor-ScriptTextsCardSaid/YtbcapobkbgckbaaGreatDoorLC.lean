/-
  A layer of own lemmas, part 3: no statement of the program stands here.
-/
import Derived.Test.YtbcapobkbgckbaaGreatDoorLB
set_option linter.all false
namespace Rf
open Go
abbrev Cl := Nat → List V → St → Option (V × St)
def evK (call : Cl) (e : List V) (s : St) : K → Option (V × St)
  | .a y => aop e s y
  | .call f args => call f (args.map (·.ev e)) s
  | .callv f args => match f.ev e with
    | .fn g cap => call g (args.map (·.ev e) ++ cap) s
    | _ => none
  | .pan _ => none
  | .bad => none
def evOps (call : Cl) : List I → List V → St → Option (List V × St)
  | [], e, s => some (e, s)
  | i :: r, e, s => match wanted e i.g with
    | some true => match evK call e s i.k with
      | some (v, s1) => evOps call r (setD e i.d v) s1
      | none => none
    | some false => evOps call r (setD e i.d unV) s
    | none => none
def sameL (p : V → V → Bool) : List V → List V → Bool
  | [], [] => true
  | a :: x, b :: y => p a b && sameL p x y
  | _, _ => false
def sameN : Nat → V → V → Bool
  | 0, _, _ => false
  | n + 1, x, y => match x, y with
    | .b a, .b b => a == b
    | .i k a, .i k' b => decide (k = k') && eqZ a b
    | .s a, .s b => a == b
    | .np, .np => true
    | .p l o, .p l' o' => Nat.beq l l' && Nat.beq o o'
    | .q v o, .q v' o' => sameN n v v' && Nat.beq o o'
    | .ns, .ns => true
    | .sl z l o n c, .sl z' l' o' n' c' => Nat.beq z z' && Nat.beq l l' && Nat.beq o o' && Nat.beq n n' && decide (c = c')
    | .pu z xs c, .pu z' ys c' => Nat.beq z z' && decide (c = c') && sameL (sameN n) xs ys
    | .tp a x, .tp b y => Nat.beq a b && Nat.beq x y
    | .nm, .nm => true
    | .m l, .m l' => Nat.beq l l'
    | .fn f cs, .fn f' ds => Nat.beq f f' && sameL (sameN n) cs ds
    | .nf, .nf => true
    | .ifc t v, .ifc t' v' => Nat.beq t t' && sameN n v v'
    | .ni, .ni => true
    | .ag xs, .ag ys => sameL (sameN n) xs ys
    | .tu xs, .tu ys => sameL (sameN n) xs ys
    | .yl l, .yl l' => Nat.beq l l'
    | .se z l, .se z' l' => Nat.beq z z' && Nat.beq l l'
    | _, _ => false
def sameV (a b : V) : Bool := sameN 8 a b
theorem sameL_eq {p : V → V → Bool} (hp : ∀ a b, p a b = true → a = b) : ∀ (x y : List V), sameL p x y = true → x = y
  | [], [], _ => rfl
  | a :: x, b :: y, h => by
    simp only [sameL, Bool.and_eq_true] at h
    rw [hp a b h.1, sameL_eq hp x y h.2]
  | [], _ :: _, h => by cases h
  | _ :: _, [], h => by cases h
theorem sameN_eq : ∀ (n : Nat) (a b : V), sameN n a b = true → a = b
  | 0, _, _, h => by cases h
  | n + 1, a, b, h => by
    have ih := sameN_eq n
    unfold sameN at h
    split at h
    all_goals (try simp only [Bool.and_eq_true, Nat.beq_eq, decide_eq_true_eq, beq_iff_eq, eqZ_eq] at h)
    all_goals (first | (cases h; done) | rfl | skip)
    all_goals (first
      | (subst h; rfl)
      | (obtain ⟨h1, h2⟩ := h; subst h1; subst h2; rfl)
      | (obtain ⟨h1, h2⟩ := h; rw [ih _ _ h1, h2])
      | (obtain ⟨h1, h2⟩ := h; rw [h1, ih _ _ h2])
      | (obtain ⟨⟨⟨⟨h1, h2⟩, h3⟩, h4⟩, h5⟩ := h; subst h1; subst h2; subst h3; subst h4; subst h5; rfl)
      | (obtain ⟨⟨h1, h2⟩, h3⟩ := h; rw [h1, h2, sameL_eq ih _ _ h3])
      | (obtain ⟨h1, h2⟩ := h; rw [h1, sameL_eq ih _ _ h2])
      | (rw [sameL_eq ih _ _ h]))
theorem sameV_eq {a b : V} (h : sameV a b = true) : a = b := sameN_eq 8 a b h
def again (e : List V) (v : V) (k : K) : List St → Bool
  | [] => true
  | t :: ts => (match k with
    | .a y => (match aop e t y with
      | some (u, _) => sameV u v
      | none => false)
    | _ => false) && again e v k ts
def evDrw (call : Cl) : List St → List (Nat × I) → List V → St → Option (List V × St)
  | _, [], e, s => some (e, s)
  | hist, (b, i) :: r, e, s => match wanted e i.g with
    | some true => match evK call e s i.k with
      | some (v, s1) => match i.k.cls with
        | 2 => evDrw call (s :: hist) r (setD e i.d v) s1
        | 0 => evDrw call hist r (setD e i.d v) s1
        | _ => if again e v i.k (hist.take b) then evDrw call hist r (setD e i.d v) s1 else none
      | none => none
    | some false => evDrw call (if i.k.cls = 2 then s :: hist else hist) r (setD e i.d unV) s
    | none => none
def evLoop (body : List V → St → Option (X × List V × St)) : Nat → List V → St → Option (X × List V × St)
  | 0, _, _ => none
  | n + 1, e, s => match body e s with
    | some (.nrm, e1, s1) => evLoop body n e1 s1
    | r => r
def evC (call : Cl) (n : Nat) : C → List V → St → Option (X × List V × St)
  | .skip, e, s => some (.nrm, e, s)
  | .ops l, e, s => match evOps call l e s with
    | some (e1, s1) => some (.nrm, e1, s1)
    | none => none
  | .drw l, e, s => match evDrw call [] l e s with
    | some (e1, s1) => some (.nrm, e1, s1)
    | none => none
  | .seq a b, e, s => match evC call n a e s with
    | some (.nrm, e1, s1) => evC call n b e1 s1
    | r => r
  | .cond c a b, e, s => match c.ev e with
    | .b true => evC call n a e s
    | .b false => evC call n b e s
    | _ => none
  | .blk id a, e, s => match evC call n a e s with
    | some (.exit i, e1, s1) => if i = id then some (.nrm, e1, s1) else some (.exit i, e1, s1)
    | r => r
  | .loop a, e, s => evLoop (evC call n a) n e s
  | .exit id, e, s => some (.exit id, e, s)
  | .ret, e, s => some (.ret, e, s)
  | .bad, _, _ => none
section
variable {gt : Nat → Option V} {P : Program}
structure TbOk (gt : Nat → Option V) (P : Program) (wf : Nat → Nat → Nat → Bool) (tb : Nat → Option F) : Prop where
  c : ∀ f F, tb f = some F → cF gt P (wf f) f = some F
  k : ∀ f F, tb f = some F → callOk P f = true
def ClOk (gt : Nat → Option V) (P : Program) (call : Cl) : Prop := ∀ f args s v s', call f args s = some (v, s') → callOk P f = true ∧ Den gt P f args s v s'
theorem evK_ok {call : Cl} (hc : ClOk gt P call) {e : List V} {s : St} {k : K} {v : V} {s' : St} (h : evK call e s k = some (v, s')) : KRun gt P e s k v s' := by
  cases k with
  | a y => exact h
  | call f args => exact (hc _ _ _ _ _ h).2
  | callv f args =>
    simp only [evK] at h
    split at h
    · rename_i g cap hf
      exact ⟨g, cap, hf, hc _ _ _ _ _ h⟩
    · cases h
  | pan x => cases h
  | bad => cases h
theorem evOps_ok {call : Cl} (hc : ClOk gt P call) : ∀ (l : List I) (e : List V) (s : St) (e' : List V) (s' : St), evOps call l e s = some (e', s') → Run gt P l e s e' s'
  | [], e, s, e', s', h => by cases h; exact .nil _ _
  | i :: r, e, s, e', s', h => by
    simp only [evOps] at h
    split at h
    · rename_i hw
      split at h
      · rename_i v s1 hk
        exact .op v s1 hw (evK_ok hc hk) (evOps_ok hc r _ _ _ _ h)
      · cases h
    · rename_i hw
      exact .skip hw (evOps_ok hc r _ _ _ _ h)
    · cases h
theorem again_ok {e : List V} {v : V} {k : K} (hk1 : k.cls = 1) : ∀ {l : List St}, again e v k l = true → ∀ t ∈ l, KRun gt P e t k v t
  | [], _, t, ht => by simp at ht
  | a :: l, h, t, ht => by
    simp only [again, Bool.and_eq_true] at h
    rcases List.mem_cons.1 ht with rfl | ht
    · cases k with
      | a y =>
        have h1 := h.1
        simp only at h1
        split at h1
        · rename_i u s1 hu
          have := sameV_eq h1
          subst this
          have := aop_cls1 hk1 hu
          subst this
          exact hu
        · cases h1
      | _ => exact absurd h.1 (by simp)
    · exact again_ok hk1 h.2 t ht
theorem evDrw_ok {call : Cl} (hc : ClOk gt P call) : ∀ (l : List (Nat × I)) (hist : List St) (e : List V) (s : St) (e' : List V) (s' : St), evDrw call hist l e s = some (e', s') → RunD gt P hist l e s e' s'
  | [], hist, e, s, e', s', h => by cases h; exact .nil _ _ _
  | (b, i) :: r, hist, e, s, e', s', h => by
    simp only [evDrw] at h
    split at h
    · rename_i hw
      split at h
      · rename_i v s1 hk
        have hk' := evK_ok hc hk
        split at h
        · rename_i h2
          exact .op2 v s1 hw h2 hk' (evDrw_ok hc r _ _ _ _ _ h)
        · rename_i h0
          obtain ⟨hs, ht⟩ := krun_cls0 h0 hk'
          subst hs
          exact .op0 v hw (by omega) hk' (fun t _ => ht t) (evDrw_ok hc r _ _ _ _ _ h)
        · rename_i h2 h0
          split at h
          · rename_i ha
            have h1 : i.k.cls = 1 := by
              rcases cls_le i.k with h3 | h3 | h3
              · exact (h0 h3).elim
              · exact h3
              · exact (h2 h3).elim
            have hs := krun_cls (by omega) hk'
            subst hs
            exact .op0 v hw (by omega) hk' (again_ok h1 ha) (evDrw_ok hc r _ _ _ _ _ h)
          · cases h
      · cases h
    · rename_i hw
      exact .skip hw (evDrw_ok hc r _ _ _ _ _ h)
    · cases h
theorem evC_ok (hm : P.follows .mixedOrders = true) {wf : Nat → Nat → Bool} {call : Cl} (hc : ClOk gt P call) (n : Nat) : ∀ (c : C) (e : List V) (s : St) (x : X) (e' : List V) (s' : St), evC call n c e s = some (x, e', s') →
    Co gt P wf c e s fun x1 e1 s1 => x1 = x ∧ e1 = e' ∧ s1 = s'
  | .skip, e, s, x, e', s', h => by cases h; exact Co.skip ⟨rfl, rfl, rfl⟩
  | .ops l, e, s, x, e', s', h => by
    simp only [evC] at h
    split at h
    · rename_i e1 s1 h1
      cases h
      exact Co.ops (evOps_ok hc _ _ _ _ _ h1) ⟨rfl, rfl, rfl⟩
    · cases h
  | .drw l, e, s, x, e', s', h => by
    simp only [evC] at h
    split at h
    · rename_i e1 s1 h1
      cases h
      exact Co.drw hm (evDrw_ok hc _ _ _ _ _ _ h1) ⟨rfl, rfl, rfl⟩
    · cases h
  | .seq a b, e, s, x, e', s', h => by
    simp only [evC] at h
    split at h
    · rename_i e1 s1 h1
      refine Co.seq ((evC_ok hm hc n a e s _ _ _ h1).mono fun x1 e2 s2 ⟨g1, g2, g3⟩ => ?_)
      subst g1; subst g2; subst g3
      exact evC_ok hm hc n b _ _ _ _ _ h
    · rename_i h0
      refine Co.seq ((evC_ok hm hc n a e s _ _ _ h).mono fun x1 e2 s2 ⟨g1, g2, g3⟩ => ?_)
      subst g1; subst g2; subst g3
      cases x1 with
      | nrm => exact (h0 _ _ h).elim
      | _ => exact ⟨rfl, rfl, rfl⟩
  | .cond c a b, e, s, x, e', s', h => by
    simp only [evC] at h
    split at h
    · rename_i h1
      exact Co.cond h1 (evC_ok hm hc n a _ _ _ _ _ h)
    · rename_i h1
      exact Co.cond h1 (evC_ok hm hc n b _ _ _ _ _ h)
    · cases h
  | .blk id a, e, s, x, e', s', h => by
    simp only [evC] at h
    split at h
    · rename_i i e1 s1 h1
      refine Co.blk ((evC_ok hm hc n a e s _ _ _ h1).mono fun x1 e2 s2 ⟨g1, g2, g3⟩ => ?_)
      subst g1; subst g2; subst g3
      simp only
      by_cases hi : i = id
      · rw [if_pos hi] at h ⊢; cases h; exact ⟨rfl, rfl, rfl⟩
      · rw [if_neg hi] at h ⊢; cases h; exact ⟨rfl, rfl, rfl⟩
    · rename_i h0
      refine Co.blk ((evC_ok hm hc n a e s _ _ _ h).mono fun x1 e2 s2 ⟨g1, g2, g3⟩ => ?_)
      subst g1; subst g2; subst g3
      cases x1 with
      | exit i => exact (h0 _ _ _ h).elim
      | _ => exact ⟨rfl, rfl, rfl⟩
  | .loop a, e, s, x, e', s', h => by
    simp only [evC] at h
    refine Co.loop (fun m e s => evLoop (evC call n a) m e s = some (x, e', s')) h fun m e s hi => ?_
    cases m with
    | zero => cases hi
    | succ m =>
      simp only [evLoop] at hi
      split at hi
      · rename_i e1 s1 h1
        refine (evC_ok hm hc n a e s _ _ _ h1).mono fun x1 e2 s2 ⟨g1, g2, g3⟩ => ?_
        subst g1; subst g2; subst g3
        exact ⟨m, _, _, Nat.lt_succ_self m, Forg.refl _, Sub.refl _, hi⟩
      · rename_i h0
        refine (evC_ok hm hc n a e s _ _ _ hi).mono fun x1 e2 s2 ⟨g1, g2, g3⟩ => ?_
        subst g1; subst g2; subst g3
        cases x1 with
        | nrm => exact (h0 _ _ hi).elim
        | _ => exact ⟨rfl, rfl, rfl⟩
  | .exit id, e, s, x, e', s', h => by cases h; exact Co.exit ⟨rfl, rfl, rfl⟩
  | .ret, e, s, x, e', s', h => by cases h; exact Co.ret ⟨rfl, rfl, rfl⟩
  | .bad, e, s, x, e', s', h => by cases h
end
end Rf
