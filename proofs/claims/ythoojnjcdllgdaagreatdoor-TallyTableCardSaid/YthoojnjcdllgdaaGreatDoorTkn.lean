import Derived.Test.YthoojnjcdllgdaaGreatDoorTze
import Derived.Test.YthoojnjcdllgdaaGreatDoorTzc
import Derived.Test.YthoojnjcdllgdaaGreatDoorBase
import Derived.Test.YthoojnjcdllgdaaGreatDoorLE
/-
  The longest silence, plainly: both ways come to the same. No statement stands here.
-/
set_option linter.all false
namespace Go.Proofs.YthoojnjcdllgdaaGreatDoor
open Go Rf TallyP
set_option maxRecDepth 100000
set_option maxHeartbeats 4000000

def mrg (o b : Option Gp) : Option Gp := match b with
  | none => o
  | some g => pickR o g
theorem pickR_if (c g : Gp) : pickR (some c) g = if gl c < gl g then some g else some c := by
  show (if ltZ (gl c) (gl g) = true then some g else some c) = _
  rw [ltZ_eq]; simp
theorem pickG_if (c g : Gp) : pickG (some c) g = if gl c < gl g ∨ (gl g = gl c ∧ g.1 < c.1) then some g else some c := by
  show (if betG g c = true then some g else some c) = _
  unfold betG
  rw [ltZ_eq, eqZ_eq, ltZ_eq]
  simp
theorem mrg_assoc (o b : Option Gp) (g : Gp) : pickR (mrg o b) g = mrg o (pickR b g) := by
  cases b with
  | none => rfl
  | some c =>
    cases o with
    | none =>
      show pickR (some c) g = mrg none (pickR (some c) g)
      rw [pickR_if]
      split <;> rfl
    | some a =>
      show pickR (pickR (some a) c) g = mrg (some a) (pickR (some c) g)
      rw [pickR_if c g, pickR_if a c]
      split
      · split
        · show pickR (some c) g = pickR (some a) g
          rw [pickR_if, pickR_if, if_pos (by omega), if_pos (by omega)]
        · show pickR (some c) g = pickR (some a) c
          rw [pickR_if, pickR_if, if_neg (by omega), if_pos (by omega)]
      · split
        · rfl
        · show pickR (some a) g = pickR (some a) c
          rw [pickR_if, pickR_if, if_neg (by omega), if_neg (by omega)]
theorem mrg_low {o : Option Gp} {g : Gp} (h : ∀ c, o = some c → c.1 ≤ g.1) : pickG o g = pickR o g := by
  cases o with
  | none => rfl
  | some c =>
    have := h c rfl
    rw [pickG_if, pickR_if]
    by_cases h1 : gl c < gl g
    · rw [if_pos (.inl h1), if_pos h1]
    · rw [if_neg (by omega), if_neg h1]
theorem mrg_high {x : Option Gp} {g c : Gp} (h : g.1 < c.1) : mrg (pickG x g) (some c) = pickG (mrg x (some c)) g := by
  show pickR (pickG x g) c = pickG (pickR x c) g
  cases x with
  | none =>
    show pickR (some g) c = pickG (some c) g
    rw [pickR_if, pickG_if]
    by_cases h1 : gl g < gl c
    · rw [if_pos h1, if_neg (by omega)]
    · rw [if_neg h1, if_pos (by omega)]
  | some a =>
    rw [pickG_if a g, pickR_if a c]
    by_cases h1 : gl a < gl g ∨ (gl g = gl a ∧ g.1 < a.1)
    · rw [if_pos h1]
      by_cases h2 : gl a < gl c
      · rw [if_pos h2, pickR_if, pickG_if]
        by_cases h3 : gl g < gl c
        · rw [if_pos h3, if_neg (by omega)]
        · rw [if_neg h3, if_pos (by omega)]
      · rw [if_neg h2, pickR_if, pickG_if, if_neg (by omega), if_pos h1]
    · rw [if_neg h1]
      by_cases h2 : gl a < gl c
      · rw [if_pos h2, pickR_if, pickG_if, if_pos h2, if_neg (by omega)]
      · rw [if_neg h2, pickR_if, pickG_if, if_neg h2, if_neg h1]
def FM (f : Int → Option Gp) (ks : List Int) (o : Option Gp) : Option Gp := ks.foldl (fun o p => mrg o (f p)) o
theorem FM_own (f : Int → Option Gp) (hf : ∀ p c, f p = some c → c.1 = p) : ∀ (ks : List Int) (o : Option Gp) (b : Int), (∀ c, o = some c → c.1 < b) → (∀ k ∈ ks, k < b) → ∀ c, FM f ks o = some c → c.1 < b
  | [], o, b, ho, _, c, h => ho c h
  | k :: ks, o, b, ho, hk, c, h => by
    refine FM_own f hf ks (mrg o (f k)) b (fun c hc => ?_) (fun q hq => hk q (List.mem_cons_of_mem _ hq)) c h
    cases hfk : f k with
    | none => rw [hfk] at hc; exact ho c hc
    | some d =>
      rw [hfk] at hc
      have hd := hf k d hfk
      have hkb := hk k (List.mem_cons_self ..)
      cases o with
      | none => cases hc; omega
      | some a =>
        rw [show mrg (some a) (some d) = pickR (some a) d from rfl, pickR_if] at hc
        have := ho a rfl
        split at hc <;> cases hc <;> omega
theorem FM_high (f : Int → Option Gp) (hf : ∀ p c, f p = some c → c.1 = p) (g : Gp) : ∀ (ks : List Int) (o : Option Gp), (∀ k ∈ ks, g.1 < k) → FM f ks (pickG o g) = pickG (FM f ks o) g
  | [], _, _ => rfl
  | k :: ks, o, h => by
    show FM f ks (mrg (pickG o g) (f k)) = pickG (FM f ks (mrg o (f k))) g
    have e : mrg (pickG o g) (f k) = pickG (mrg o (f k)) g := by
      cases hfk : f k with
      | none => rfl
      | some c => exact mrg_high (by rw [hf k c hfk]; exact h k (List.mem_cons_self ..))
    rw [e]
    exact FM_high f hf g ks _ fun q hq => h q (List.mem_cons_of_mem _ hq)
theorem FM_cong {f f' : Int → Option Gp} : ∀ (ks : List Int) (o : Option Gp), (∀ k ∈ ks, f k = f' k) → FM f ks o = FM f' ks o
  | [], _, _ => rfl
  | k :: ks, o, h => by
    show FM f ks (mrg o (f k)) = FM f' ks (mrg o (f' k))
    rw [h k (List.mem_cons_self ..)]
    exact FM_cong ks _ fun q hq => h q (List.mem_cons_of_mem _ hq)
theorem FM_step {f f' : Int → Option Gp} (hf : ∀ p c, f p = some c → c.1 = p) {p : Int} {g : Gp} (hg : g.1 = p) (hp : f' p = pickR (f p) g) (hq : ∀ q, q ≠ p → f' q = f q) {ks : List Int} (ha : ks.Pairwise (· < ·)) (hm : p ∈ ks) : FM f' ks none = pickG (FM f ks none) g := by
  obtain ⟨A, C, rfl⟩ := List.append_of_mem hm
  have hA : ∀ k ∈ A, k < p := fun k hk => (List.pairwise_append.1 ha).2.2 k hk p (List.mem_cons_self ..)
  have hC : ∀ k ∈ C, p < k := (List.pairwise_cons.1 (List.pairwise_append.1 ha).2.1).1
  have e1 : ∀ (f : Int → Option Gp), FM f (A ++ p :: C) none = FM f C (mrg (FM f A none) (f p)) := fun f => by
    unfold FM; rw [List.foldl_append, List.foldl_cons]
  rw [e1, e1, hp, FM_cong (f := f') (f' := f) A none fun k hk => hq k (fun e => by have := hA k hk; omega), FM_cong (f := f') (f' := f) C _ fun k hk => hq k (fun e => by have := hC k hk; omega)]
  have ho : ∀ c, FM f A none = some c → c.1 < p := FM_own f hf A none p (fun c h => by cases h) hA
  rw [← mrg_assoc, ← mrg_low, FM_high f hf g C _ fun k hk => by rw [hg]; exact hC k hk]
  intro c hc
  rw [hg]
  cases hfp : f p with
  | none => rw [hfp] at hc; have := ho c hc; omega
  | some d =>
    rw [hfp] at hc
    have hd := hf p d hfp
    cases hfa : FM f A none with
    | none => rw [hfa] at hc; cases hc; omega
    | some a =>
      rw [hfa] at hc
      rw [show mrg (some a) (some d) = pickR (some a) d from rfl, pickR_if] at hc
      have := ho a hfa
      split at hc <;> cases hc <;> omega
def bP (p : Int) (E : List Mv) : Option Int × Option Gp := E.foldl (rinS p) (none, none)
theorem rin_mrg (p : Int) (o : Option Gp) : ∀ (E : List Mv) (la : Option Int) (b : Option Gp), E.foldl (rinS p) (la, mrg o b) = ((E.foldl (rinS p) (la, b)).1, mrg o (E.foldl (rinS p) (la, b)).2)
  | [], _, _ => rfl
  | m :: E, la, b => by
    rw [List.foldl_cons, List.foldl_cons]
    by_cases h : eqZ m.to p = true
    · cases la with
      | none =>
        rw [show rinS p (none, mrg o b) m = (some m.t, mrg o b) by unfold rinS; rw [if_pos h], show rinS p (none, b) m = (some m.t, b) by unfold rinS; rw [if_pos h]]
        exact rin_mrg p o E _ _
      | some fr =>
        rw [show rinS p (some fr, mrg o b) m = (some m.t, pickR (mrg o b) (p, fr, m.t)) by unfold rinS; rw [if_pos h], show rinS p (some fr, b) m = (some m.t, pickR b (p, fr, m.t)) by unfold rinS; rw [if_pos h], mrg_assoc]
        exact rin_mrg p o E _ _
    · rw [show rinS p (la, mrg o b) m = (la, mrg o b) by unfold rinS; rw [if_neg h], show rinS p (la, b) m = (la, b) by unfold rinS; rw [if_neg h]]
      exact rin_mrg p o E _ _
theorem rsil_FM (E : List Mv) : ∀ (l : List RwP) (o : Option Gp), l.foldl (fun o w => (E.foldl (rinS w.1) (none, o)).2) o = FM (fun p => (bP p E).2) (l.map (·.1)) o
  | [], _ => rfl
  | w :: l, o => by
    rw [List.foldl_cons, rsil_FM E l]
    have h := rin_mrg w.1 o E none none
    rw [show mrg o none = o from rfl] at h
    rw [h]; rfl
theorem bP_own (p : Int) : ∀ (E : List Mv) (la : Option Int) (b : Option Gp), (∀ c, b = some c → c.1 = p) → ∀ c, (E.foldl (rinS p) (la, b)).2 = some c → c.1 = p
  | [], _, _, hb, c, h => hb c h
  | m :: E, la, b, hb, c, h => by
    rw [List.foldl_cons] at h
    by_cases he : eqZ m.to p = true
    · cases la with
      | none =>
        rw [show rinS p (none, b) m = (some m.t, b) by unfold rinS; rw [if_pos he]] at h
        exact bP_own p E _ _ hb c h
      | some fr =>
        rw [show rinS p (some fr, b) m = (some m.t, pickR b (p, fr, m.t)) by unfold rinS; rw [if_pos he]] at h
        refine bP_own p E _ _ (fun c hc => ?_) c h
        cases b with
        | none => cases hc; rfl
        | some d =>
          rw [pickR_if] at hc
          have := hb d rfl
          split at hc <;> cases hc <;> first | rfl | exact this
    · rw [show rinS p (la, b) m = (la, b) by unfold rinS; rw [if_neg he]] at h
      exact bP_own p E _ _ hb c h
theorem bP_snoc (p : Int) (E : List Mv) (m : Mv) : bP p (E ++ [m]) = rinS p (bP p E) m := by
  unfold bP; rw [List.foldl_append]; rfl
theorem sil_main {ks : List Int} (ha : ks.Pairwise (· < ·)) : ∀ (n : Nat) (E : List Mv), E.length = n → (∀ m ∈ E, m.to ∈ ks) →
    (E.foldl silS ([], none)).2 = FM (fun p => (bP p E).2) ks none ∧ ∀ p, lkk p (E.foldl silS ([], none)).1 = (bP p E).1
  | 0, E, hE, _ => by
    obtain rfl := List.eq_nil_of_length_eq_zero hE
    refine ⟨?_, fun p => rfl⟩
    have : ∀ (ks : List Int), FM (fun p => (bP p []).2) ks none = none := fun ks => by
      induction ks with
      | nil => rfl
      | cons k ks ih => exact ih
    rw [this]; rfl
  | n + 1, E, hE, hm => by
    obtain ⟨E0, m, rfl⟩ : ∃ E0 m, E = E0 ++ [m] := by
      have hne : E ≠ [] := fun h => by subst h; cases hE
      exact ⟨E.dropLast, E.getLast hne, (List.dropLast_concat_getLast hne).symm⟩
    obtain ⟨ih1, ih2⟩ := sil_main ha n E0 (by simpa using hE) fun x hx => hm x (List.mem_append_left _ hx)
    have hmk := hm m (List.mem_append_right _ (List.mem_cons_self ..))
    rw [List.foldl_append, List.foldl_cons, List.foldl_nil]
    generalize E0.foldl silS ([], none) = st at ih1 ih2
    obtain ⟨L, o⟩ := st
    simp only at ih1 ih2
    have hto : eqZ m.to m.to = true := by rw [eqZ_eq]; simp
    have hne : ∀ q, q ≠ m.to → rinS q (bP q E0) m = bP q E0 := fun q hq => by
      unfold rinS
      rw [if_neg (by rw [eqZ_eq]; simp; exact fun e => hq e.symm)]
    have hl := ih2 m.to
    refine ⟨?_, fun p => ?_⟩
    · unfold silS
      simp only
      rw [hl]
      cases hla : (bP m.to E0).1 with
      | none =>
        simp only
        rw [ih1]
        refine FM_cong ks none fun k _ => ?_
        rw [bP_snoc]
        by_cases hk : k = m.to
        · subst hk
          unfold rinS
          rw [if_pos hto, hla]
        · rw [hne k hk]
      | some fr =>
        simp only
        rw [ih1]
        refine (FM_step (f := fun p => (bP p E0).2) (fun p c hc => bP_own p E0 none none (fun c h => by cases h) c hc) (p := m.to) (g := (m.to, fr, m.t)) rfl ?_ (fun q hq => ?_) ha hmk).symm
        · rw [bP_snoc]
          unfold rinS
          rw [if_pos hto, hla]
        · rw [bP_snoc, hne q hq]
    · unfold silS
      simp only
      rw [lkk_updM, bP_snoc]
      by_cases hp : p = m.to
      · subst hp
        rw [if_pos rfl]
        unfold rinS
        rw [if_pos hto]
      · rw [if_neg hp, ih2 p, hne p hp]
theorem sil_same (ms : List Mv) : rsil (evs ms) (refP (evs ms)) = silF (evs ms) := by
  have hA : Asc ltI (refP (evs ms)) := (fold_same ordI keyP (fun m => fP m) (evs ms) [] [] List.Pairwise.nil List.nodup_nil (fun _ => rfl)).1
  have hks : ((refP (evs ms)).map (·.1)).Pairwise (· < ·) := hA.imp fun h => by simpa [ltI] using h
  have hmem : ∀ m ∈ evs ms, m.to ∈ (refP (evs ms)).map (·.1) := by
    have : ∀ (E : List Mv) (l : List RwP), (∀ k ∈ keysL l, k ∈ keysL (E.foldl (fun L e => insR ltI (fP e) (keyP e) L) l)) ∧ ∀ m ∈ E, m.to ∈ keysL (E.foldl (fun L e => insR ltI (fP e) (keyP e) L) l) := by
      intro E
      induction E with
      | nil => intro l; exact ⟨fun k h => h, fun m h => by cases h⟩
      | cons e E ih =>
        intro l
        have hins : ∀ (l : List RwP) (k : Int), (k = keyP e ∨ k ∈ keysL l) → k ∈ keysL (insR ltI (fP e) (keyP e) l) := by
          intro l k
          induction l with
          | nil => intro h; rcases h with rfl | h
                   · simp [insR, keysL]
                   · cases h
          | cons x r ih2 =>
            obtain ⟨a, s⟩ := x
            intro h
            unfold insR
            split
            · rcases h with h | h
              · exact List.mem_cons_of_mem _ (ih2 (.inl h))
              · rcases List.mem_cons.1 h with h | h
                · rw [h]; exact List.mem_cons_self ..
                · exact List.mem_cons_of_mem _ (ih2 (.inr h))
            · split
              · rename_i ea
                subst ea
                rcases h with h | h
                · rw [h]; exact List.mem_cons_self ..
                · exact h
              · rcases h with h | h
                · rw [h]; exact List.mem_cons_self ..
                · exact List.mem_cons_of_mem _ h
        obtain ⟨h1, h2⟩ := ih (insR ltI (fP e) (keyP e) l)
        refine ⟨fun k hk => h1 k (hins l k (.inr hk)), fun m hm => ?_⟩
        rcases List.mem_cons.1 hm with rfl | hm
        · exact h1 _ (hins l _ (.inl rfl))
        · exact h2 m hm
    exact (this (evs ms) []).2
  unfold rsil
  rw [rsil_FM, ← (sil_main hks _ (evs ms) rfl hmem).1]; rfl
end Go.Proofs.YthoojnjcdllgdaaGreatDoor
/-
  The chapter's row. No statement stands here.
-/
set_option linter.all false
namespace Go.Proofs.YthoojnjcdllgdaaGreatDoor
open Go Rf
set_option maxRecDepth 100000

def wfz (_ : Nat) : Nat → Nat → Bool := fun _ _ => true
noncomputable def tb : Nat → Option F := fun f => if callOk Tryz.prog f then cF gt0 Tryz.prog (wfz f) f else none
theorem tb_ok : TbOk gt0 Tryz.prog wfz tb := by
  refine ⟨fun f F h => ?_, fun f F h => ?_⟩
  · unfold tb at h; split at h
    · exact h
    · cases h
  · unfold tb at h; split at h
    · assumption
    · cases h
theorem den_of {f : Nat} {args : List V} {s : St} {v : V} {n d : Nat} (h : (evFT tb n d f args s).map (·.1) = some v) : ∃ s', Den gt0 Tryz.prog f args s v s' := by
  simp only [Option.map_eq_some_iff] at h
  obtain ⟨⟨v', s'⟩, h1, h2⟩ := h
  simp only at h2
  subst h2
  exact ⟨s', (evFT_ok mixed tb_ok n d _ _ _ _ _ h1).2⟩
theorem known_run : (evFT tb 1000 1000 5 [] s0).map (·.1) = some (.b true) := by kernel_rfl
theorem known_pden : PDen gt0 Tryz.prog 5 [] (.b true) := by
  obtain ⟨s', h⟩ := den_of known_run
  exact Den.pure gnm0 (fun x hx => by simp at hx) (.b _) h
end Go.Proofs.YthoojnjcdllgdaaGreatDoor
