/-
  What makes objects in the empty state makes them in every state, under names shifted; what a function made and no one writes any more is a value that reads the same.
-/
import Derived.Test.YtklgkdehnaecnaaDoorRfT
set_option linter.all false
set_option linter.unusedSimpArgs false
namespace Rf
open Go

/-- the same value, its names shifted -/
inductive Sh (d : Nat) : V → V → Prop
  | nm (v : V) (h : Nm s0.L v) : Sh d v v
  | p (l o : Nat) : Sh d (.p l o) (.p (d + l) o)
  | sl (z l o n : Nat) (c : Option Nat) : Sh d (.sl z l o n c) (.sl z (d + l) o n c)
  | ag (cs ds : List V) (hl : cs.length = ds.length) (h : ∀ j, j < cs.length → Sh d (cs.getD j .bad) (ds.getD j .bad)) : Sh d (.ag cs) (.ag ds)
  | tu (cs ds : List V) (hl : cs.length = ds.length) (h : ∀ j, j < cs.length → Sh d (cs.getD j .bad) (ds.getD j .bad)) : Sh d (.tu cs) (.tu ds)

def ShO (d : Nat) : O → O → Prop
  | .c cs z t, .c cs' z' t' => cs.length = cs'.length ∧ z = z' ∧ t = t' ∧ ∀ j, j < cs.length → Sh d (cs.getD j .bad) (cs'.getD j .bad)
  | .t e, .t e' => e = e'
  | _, _ => False

theorem VRep.unname {cx cx' : Cx} {h : Array Obj} {n n' : Nat → Prop} (hf : ∀ b o, cx.fz b o → cx'.fz b o) {v : V} {x : Value} (hv : VRep cx h n v x) (hn : Nm s0.L v) : VRep cx' h n' v x :=
  VRep.later (cx := cx') (h := h) (n := s0.L) ⟨fun _ h => (Nat.not_lt_zero _ h.1).elim, fun _ _ => rfl, fun _ _ => .inl rfl, fun _ _ h => h, fun _ _ _ => rfl⟩
    (VRep.names (n' := s0.L) (fun _ h => (Nat.not_lt_zero _ h.1).elim) (fun _ h => (Nat.not_lt_zero _ h.1).elim) hf (fun _ _ _ => rfl) hv hn)

theorem VRep.sh {cx cx' : Cx} {h : Array Obj} {n n' : Nat → Prop} {d : Nat} (hr : ∀ l, n l → cx'.r (d + l) = cx.r l) (hn : ∀ l, n l → n' (d + l)) (hf : ∀ b o, cx.fz b o → cx'.fz b o) {v u : V} (hs : Sh d v u) : ∀ {x : Value}, VRep cx h n v x → VRep cx' h n' u x := by
  induction hs with
  | nm v h1 => intro x hv; exact hv.unname hf h1
  | p l o =>
    intro x hv
    cases hv with
    | p _ _ hl => rw [← hr l hl]; exact .p _ _ (hn l hl)
  | sl z l o k c =>
    intro x hv
    cases hv with
    | sl _ _ _ _ _ cap hl hk hc => rw [← hr l hl]; exact .sl _ _ _ _ _ cap (hn l hl) hk (by unfold slR at hc ⊢; rw [hr l hl]; exact hc)
  | ag cs ds hl _ ih =>
    intro x hv
    cases hv with
    | ag _ vs hs h1 hv => exact .ag ds vs (by omega) (fun j hj => h1 j (by omega)) (fun j hj => ih j (by omega) (hv j (by omega)))
  | tu cs ds hl _ ih =>
    intro x hv
    cases hv with
    | tu _ vs hs hv => exact .tu ds vs (by omega) (fun j hj => ih j (by omega) (hv j (by omega)))

section
variable {gt : Nat → Option V} {P : Program}

/-- what makes objects in the empty state makes them in every state -/
theorem Den.lift {f : FuncId} {args : List V} {v u : V} {s s1 s2 : St} (hgt : GNm gt) (ha : ∀ x ∈ args, Nm s0.L x) (hD : Den gt P f args s0 v s1) (hv : Sh s.n v u)
    (hn : s2.n = s.n + s1.n) (hg : s2.g = s.g) (hg1 : s1.g = []) (ho : ∀ l, l < s.n → s2.get l = s.get l) (hw : ∀ l o2, s.n ≤ l → s2.get l = some o2 → ∃ o, s1.get (l - s.n) = some o ∧ ShO s.n o o2) : Den gt P f args s u s2 := by
  intro cx w xs R G A
  have keep : ∀ {v : V} {x : Value}, Nm s0.L v → VRep cx w.heap s.L v x → VRep cx w.heap s0.L v x := fun hn hr => VRep.names (n' := s0.L) (fun _ h => (Nat.not_lt_zero _ h.1).elim) (fun _ h => (Nat.not_lt_zero _ h.1).elim) (fun _ _ h => h) (fun _ _ _ => rfl) hr hn
  refine (hD cx w xs (rel_s0 R) (fun g v hg => keep (.q _ _ (hgt g v hg)) (G g v hg)) ⟨A.len, fun j hj => keep (Nm.getD ha j) (A.rep j hj)⟩).mono fun e w' ⟨x, cx', h1, h2, h3, h4, h5⟩ => ?_
  have hfzc : ∀ b o, cx.fz b o → cellAt w'.heap b o = cellAt w.heap b o := h4.later.cell
  let cx2 : Cx := { r := fun l => if l < s.n then cx.r l else cx'.r (l - s.n), tk := fun l => if l < s.n then cx.tk l else cx'.tk (l - s.n), fz := cx'.fz }
  have hr1 : ∀ l, l < s.n → cx2.r l = cx.r l := fun l hl => if_pos hl
  have ht1 : ∀ l, l < s.n → cx2.tk l = cx.tk l := fun l hl => if_pos hl
  have hr2 : ∀ l, s.n ≤ l → cx2.r l = cx'.r (l - s.n) := fun l hl => if_neg (by omega)
  have ht2 : ∀ l, s.n ≤ l → cx2.tk l = cx'.tk (l - s.n) := fun l hl => if_neg (by omega)
  have up : ∀ l, s1.L l → s2.L (s.n + l) := fun l hl => ⟨by rw [hn]; have := hl.1; omega, fun h => by rw [hg] at h; have := R.gl _ h; omega⟩
  have nle : ∀ l, s.L l → s2.L l := fun l hl => ⟨by rw [hn]; have := hl.1; omega, by rw [hg]; exact hl.2⟩
  have L : Later cx w.heap s.L cx2 w'.heap s2.L := ⟨nle, fun l hl => hr1 l hl.1, fun l hl => .inl (ht1 l hl.1), h4.later.fz, hfzc⟩
  have hsh : ∀ {v u : V} {x : Value}, Sh s.n v u → VRep cx' w'.heap s1.L v x → VRep cx2 w'.heap s2.L u x := fun hs hv =>
    VRep.sh (cx := cx') (cx' := cx2) (fun l _ => by rw [hr2 _ (Nat.le_add_right ..), Nat.add_sub_cancel_left]) up (fun _ _ h => h) hs hv
  have hblk : ∀ b, b < w.heap.size → w'.heap[b]? = w.heap[b]? := fun b hb => h4.frame b hb (not_own_s0 cx b)
  have hnew : ∀ b o, cx'.fz b o → b < w.heap.size → cx.fz b o := fun b o hf hb => by
    rcases h4.nfz b o hf with h6 | h6 | h6
    · exact h6
    · exact (not_own_s0 cx b h6).elim
    · omega
  have hbk : ∀ l o, s1.get l = some o → w.heap.size ≤ blk cx' l o := fun l o hl => by
    rcases h4.own _ ⟨l, o, hl, rfl⟩ with h6 | h6
    · exact (not_own_s0 cx _ h6).elim
    · exact h6
  have hb1 : ∀ l, l < s.n → ∀ o, blk cx2 l o = blk cx l o := fun l hl o => by
    cases o with
    | c cs z ty => show (cx2.r l).b = _; rw [hr1 l hl]; rfl
    | t e => show (cx2.tk l).b = _; rw [ht1 l hl]; rfl
    | x o => show (cx2.r l).b = _; rw [hr1 l hl]; rfl
  have hb2 : ∀ l, s.n ≤ l → ∀ o o2, ShO s.n o o2 → blk cx2 l o2 = blk cx' (l - s.n) o := fun l hl o o2 h => by
    cases o with
    | c cs z ty =>
      cases o2 with
      | c cs' z' ty' => show (cx2.r l).b = _; rw [hr2 l hl]; rfl
      | t e => exact h.elim
      | x o => exact h.elim
    | t e =>
      cases o2 with
      | t e' => show (cx2.tk l).b = _; rw [ht2 l hl]; rfl
      | c cs z ty => exact h.elim
      | x o => exact h.elim
    | x o => exact h.elim
  refine ⟨x, cx2, h1, hsh hv h2, ?_, ?_, h5⟩
  · refine ⟨fun l hl => ?_, fun l hl => by rw [hg] at hl; have := R.gl l hl; omega, fun l o hl => ?_, fun l l' o o' g1 g2 hne => ?_, h3.fzl, fun l cs z' ty hl o hf => ?_, fun l e hl o hf => ?_⟩
    · by_cases e : l < s.n
      · rw [ho l e]; exact R.wf l (fun h => hl (nle l h))
      · cases hgl : s2.get l with
        | none => rfl
        | some o2 =>
          obtain ⟨o, k1, -⟩ := hw l o2 (by omega) hgl
          have := up _ (h3.name_L k1)
          rw [show s.n + (l - s.n) = l by omega] at this
          exact (hl this).elim
    · by_cases e : l < s.n
      · have hg' : s.get l = some o := by rw [← ho l e]; exact hl
        have h6 := R.obj l o hg'
        have hb : blk cx l o < w.heap.size := R.own_lt ⟨l, o, hg', rfl⟩
        cases o with
        | c cs z ty =>
          obtain ⟨arr, el, lo, hi, a1, a2, a3, a4, a5⟩ := h6
          refine ⟨arr, el, lo, hi, ?_, ?_⟩
          · rw [hr1 l e, ← a1]; exact hblk _ hb
          · rw [hr1 l e]; exact ⟨a2, a3, fun j hj => (a4 j hj).later L, a5⟩
        | t e0 =>
          obtain ⟨arr, el, lo, hi, a1, a2, a3, a4⟩ := h6
          refine ⟨arr, el, lo, hi, ?_, ?_⟩
          · rw [ht1 l e, ← a1]; exact hblk _ hb
          · rw [ht1 l e]; exact ⟨a2, a3, a4⟩
        | x o =>
          show (cx2.r l).d = 0 ∧ XRep cx2 w'.heap _ (cx2.r l).b o
          rw [hr1 l e]; exact ⟨h6.1, XRep.later L (hblk _ hb) h6.2⟩
      · obtain ⟨o1, k1, k2⟩ := hw l o (by omega) hl
        have h6 := h3.obj _ o1 k1
        cases o1 with
        | c cs z ty =>
          cases o with
          | c cs' z' ty' =>
            obtain ⟨q1, rfl, rfl, q4⟩ := k2
            obtain ⟨arr, el, lo, hi, a1, a2, a3, a4, a5⟩ := h6
            refine ⟨arr, el, lo, hi, by rw [hr2 l (by omega)]; exact a1, ?_⟩
            rw [hr2 l (by omega), ← q1]
            exact ⟨a2, a3, fun j hj => hsh (q4 j hj) (a4 j hj), a5⟩
          | t e => exact k2.elim
          | x o => exact k2.elim
        | t e1 =>
          cases o with
          | t e' =>
            have k2 : e1 = e' := k2
            subst k2
            obtain ⟨arr, el, lo, hi, a1, a2, a3, a4⟩ := h6
            refine ⟨arr, el, lo, hi, by rw [ht2 l (by omega)]; exact a1, ?_⟩
            rw [ht2 l (by omega)]
            exact ⟨a2, a3, a4⟩
          | c cs z ty => exact k2.elim
          | x o => exact k2.elim
        | x o1 => exact k2.elim
    · by_cases e : l < s.n
      · have g1' : s.get l = some o := by rw [← ho l e]; exact g1
        by_cases e' : l' < s.n
        · rw [hb1 l e, hb1 l' e']
          exact R.inj l l' o o' g1' (by rw [← ho l' e']; exact g2) hne
        · obtain ⟨o1, k1, k2⟩ := hw l' o' (by omega) g2
          rw [hb1 l e, hb2 l' (by omega) _ _ k2]
          have := hbk _ _ k1
          have := R.own_lt ⟨l, o, g1', rfl⟩
          omega
      · obtain ⟨o1, k1, k2⟩ := hw l o (by omega) g1
        rw [hb2 l (by omega) _ _ k2]
        by_cases e' : l' < s.n
        · have g2' : s.get l' = some o' := by rw [← ho l' e']; exact g2
          rw [hb1 l' e']
          have := hbk _ _ k1
          have := R.own_lt ⟨l', o', g2', rfl⟩
          omega
        · obtain ⟨o2, k3, k4⟩ := hw l' o' (by omega) g2
          rw [hb2 l' (by omega) _ _ k4]
          exact h3.inj _ _ _ _ k1 k3 (by omega)
    · by_cases e : l < s.n
      · have g1' : s.get l = some (.c cs z' ty) := by rw [← ho l e]; exact hl
        rw [hr1 l e] at hf
        exact R.fzo l cs z' ty g1' o (hnew _ _ hf (R.own_lt ⟨l, _, g1', rfl⟩))
      · obtain ⟨o1, k1, k2⟩ := hw l _ (by omega) hl
        rw [hr2 l (by omega)] at hf
        cases o1 with
        | c cs1 z1 t1 => exact h3.fzo _ _ _ _ k1 o hf
        | t e => exact k2.elim
        | x o => exact k2.elim
    · by_cases e' : l < s.n
      · have g1' : s.get l = some (.t e) := by rw [← ho l e']; exact hl
        rw [ht1 l e'] at hf ⊢
        exact R.fzt l e g1' o (hnew _ _ hf (R.own_lt ⟨l, _, g1', rfl⟩))
      · obtain ⟨o1, k1, k2⟩ := hw l _ (by omega) hl
        rw [ht2 l (by omega)] at hf ⊢
        cases o1 with
        | c cs1 z1 t1 => exact k2.elim
        | t e1 =>
          have k2 : e1 = e := k2
          subst k2
          exact h3.fzt _ _ k1 o hf
        | x o => exact k2.elim
  · refine ⟨L, h4.size, fun b hb _ => hblk b hb, fun b ⟨l, o, hl, hbl⟩ => ?_, fun b o hf => ?_⟩
    · by_cases e : l < s.n
      · exact .inl ⟨l, o, by rw [← ho l e]; exact hl, by rw [← hbl, hb1 l e]⟩
      · obtain ⟨o1, k1, k2⟩ := hw l o (by omega) hl
        rw [hb2 l (by omega) _ _ k2] at hbl
        have := hbk _ _ k1
        exact .inr (by omega)
    · rcases h4.nfz b o hf with h6 | h6 | h6
      · exact .inl h6
      · exact (not_own_s0 cx b h6).elim
      · exact .inr (.inr h6)

/-- what it made is written by no one any more -/
theorem PDen.freeze {f : FuncId} {args : List V} {v u : V} {s1 : St} (hgt : GNm gt) (ha : ∀ x ∈ args, Nm s0.L x) (hu : Nm s0.L u) (hD : Den gt P f args s0 v s1) (hr : Rd s1 v u) : PDen gt P f args u := fun s => by
  refine Den.pure hgt ha hu (s' := s0) ?_ s
  intro cx w xs R G A
  refine (hD cx w xs R G A).mono fun e w' ⟨x, cx', h1, h2, h3, h4, h5⟩ => ?_
  have r1 := hr.rep h3 h2
  refine ⟨x, cx'.still s1 w'.heap, h1, r1.unname (fun _ _ h => h) hu, rel_s0 (bare_rel h3), ?_, h5⟩
  refine ⟨⟨fun _ h => h, fun _ h => (Nat.not_lt_zero _ h.1).elim, fun _ h => (Nat.not_lt_zero _ h.1).elim, fun b o hf => ⟨.inl (h4.later.fz b o hf), h3.fzl b o (h4.later.fz b o hf)⟩, h4.later.cell⟩, h4.size, h4.frame, fun b hb => (not_own_s0 _ b hb).elim, fun b o hf => ?_⟩
  rcases hf.1 with h6 | ⟨l, cs, z, t, hl, hb, -⟩
  · exact h4.nfz b o h6
  · rcases h4.own b ⟨l, _, hl, hb.symm⟩ with h7 | h7
    · exact .inr (.inl h7)
    · exact .inr (.inr h7)

/-- objects made one behind the other -/
def St.adds (s : St) (os : List O) : St := os.foldl St.new s
theorem St.adds_nil (s : St) : s.adds [] = s := rfl
theorem St.adds_cons (s : St) (o : O) (os : List O) : s.adds (o :: os) = (s.new o).adds os := rfl
theorem St.adds_app (s : St) (a b : List O) : s.adds (a ++ b) = (s.adds a).adds b := List.foldl_append ..
theorem St.adds_n : ∀ (os : List O) (s : St), (s.adds os).n = s.n + os.length
  | [], s => rfl
  | o :: os, s => by rw [St.adds_cons, St.adds_n os, St.new_n, List.length_cons]; omega
theorem St.adds_g : ∀ (os : List O) (s : St), (s.adds os).g = s.g
  | [], s => rfl
  | o :: os, s => by rw [St.adds_cons, St.adds_g os, St.new_g]
theorem St.adds_lt : ∀ (os : List O) (s : St) (l : Nat), l < s.n → (s.adds os).get l = s.get l
  | [], s, l, _ => rfl
  | o :: os, s, l, h => by rw [St.adds_cons, St.adds_lt os _ l (by rw [St.new_n]; omega), St.get_new_ne _ _ _ (by omega)]
theorem St.adds_get : ∀ (os : List O) (s : St) (i : Nat), i < os.length → (s.adds os).get (s.n + i) = os[i]?
  | [], s, i, h => by simp at h
  | o :: os, s, 0, _ => by
    rw [St.adds_cons, Nat.add_zero, St.adds_lt os _ _ (by rw [St.new_n]; omega), St.get_new_same]; rfl
  | o :: os, s, i + 1, h => by
    have := St.adds_get os (s.new o) i (by simpa using h)
    rw [St.adds_cons, show s.n + (i + 1) = (s.new o).n + i by rw [St.new_n]; omega, this]; rfl
theorem St.adds_ge (os : List O) (s : St) (wf : ∀ l, s.n ≤ l → s.get l = none) (i : Nat) (h : os.length ≤ i) : (s.adds os).get (s.n + i) = none := by
  induction os generalizing s i with
  | nil => exact wf _ (Nat.le_add_right ..)
  | cons o os ih =>
    have := ih (s.new o) (fun l hl => by rw [St.get_new_ne _ _ _ (by rw [St.new_n] at hl; omega)]; exact wf l (by rw [St.new_n] at hl; omega)) (i - 1) (by simp at h; omega)
    rw [St.adds_cons, ← this]
    simp only [List.length_cons] at h
    rw [show s.n + i = (s.new o).n + (i - 1) by rw [St.new_n]; omega]

/-- a contract over objects made one behind the other -/
theorem Den.adds {f : FuncId} {args : List V} {v u : V} {os os2 : List O} (hgt : GNm gt) (ha : ∀ x ∈ args, Nm s0.L x) (hD : Den gt P f args s0 v (s0.adds os)) (s : St) (wf : ∀ l, s.n ≤ l → s.get l = none) (hv : Sh s.n v u)
    (hl : os.length = os2.length) (h : ∀ (i : Nat) o o2, os[i]? = some o → os2[i]? = some o2 → ShO s.n o o2) : Den gt P f args s u (s.adds os2) := by
  refine Den.lift hgt ha hD hv (by rw [St.adds_n, St.adds_n, hl]; simp [s0]) (St.adds_g ..) (by rw [St.adds_g]; rfl) (fun l h => St.adds_lt _ _ _ h) (fun l o2 hle h2 => ?_)
  have e : l = s.n + (l - s.n) := by omega
  by_cases hi : l - s.n < os2.length
  · rw [e, St.adds_get _ _ _ hi] at h2
    have h3 := St.adds_get os s0 (l - s.n) (by omega)
    rw [show s0.n + (l - s.n) = l - s.n by simp [s0]] at h3
    refine ⟨os[l - s.n]'(by omega), by rw [h3]; simp [show l - s.n < os.length by omega], h _ _ _ (by simp [show l - s.n < os.length by omega]) h2⟩
  · rw [e, St.adds_ge _ _ wf _ (by omega)] at h2
    cases h2
end
end Rf
