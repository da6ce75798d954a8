/-
  Names changed: a state that is another one but for its objects' names stands for the same world.
-/
import Derived.Test.YtklgkdehnaecnaaDoorRfQa
set_option linter.all false
set_option linter.unusedSimpArgs false
namespace Rf
open Go

/-- 'b' is a name there (below m), 'a' is its name here -/
def nmR (p : Nat → Nat) (m : Nat) (a b : Nat) : Bool := Nat.blt b m && Nat.beq a (p b)

def capRn (p : Nat → Nat) (m : Nat) : Cap → Cap → Bool
  | .u, .u => true
  | .z, .z => true
  | .x a, .x b => Nat.beq a b
  | .t a, .t b => nmR p m a b
  | _, _ => false

/-- the same value, but for its names: here and there -/
def renN (p : Nat → Nat) (m : Nat) : Nat → V → V → Bool
  | 0, _, _ => false
  | k + 1, x, y => match x, y with
    | .bad, .bad => true
    | .b a, .b b => a == b
    | .i k a, .i k' b => decide (k = k') && eqZ a b
    | .s a, .s b => a == b
    | .np, .np => true
    | .p l o, .p l' o' => nmR p m l l' && Nat.beq o o'
    | .q v o, .q v' o' => sameL (renN p m k) v.cells v'.cells && Nat.beq o o'
    | .ns, .ns => true
    | .sl z l o n c, .sl z' l' o' n' c' => Nat.beq z z' && nmR p m l l' && Nat.beq o o' && Nat.beq n n' && decide (c = c')
    | .se z l, .se z' l' => Nat.beq z z' && nmR p m l l'
    | .pu z xs c, .pu z' ys c' => Nat.beq z z' && capRn p m c c' && sameL (fun a b => sameL (renN p m k) a.cells b.cells) xs ys
    | .tp a x, .tp b y => Nat.beq a b && Nat.beq x y
    | .nm, .nm => true
    | .m l, .m l' => nmR p m l l'
    | .fn f cs, .fn f' ds => Nat.beq f f' && sameL (renN p m k) cs ds
    | .nf, .nf => true
    | .ifc t v, .ifc t' v' => Nat.beq t t' && renN p m k v v'
    | .ni, .ni => true
    | .ag xs, .ag ys => sameL (renN p m k) xs ys
    | .tu xs, .tu ys => sameL (renN p m k) xs ys
    | .yl l, .yl l' => nmR p m l l'
    | _, _ => false

theorem sameL_get {p : V → V → Bool} : ∀ (x y : List V), sameL p x y = true → x.length = y.length ∧ ∀ j, j < x.length → p (x.getD j .bad) (y.getD j .bad) = true
  | [], [], _ => ⟨rfl, fun j hj => by simp at hj⟩
  | a :: x, b :: y, h => by
    simp only [sameL, Bool.and_eq_true] at h
    obtain ⟨h1, h2⟩ := sameL_get x y h.2
    refine ⟨by simp [h1], fun j hj => ?_⟩
    cases j with
    | zero => exact h.1
    | succ j => simpa using h2 j (by simpa using hj)
  | [], _ :: _, h => by cases h
  | _ :: _, [], h => by cases h

def Cx.ren (cx : Cx) (p : Nat → Nat) : Cx := ⟨fun l => cx.r (p l), fun l => cx.tk (p l), cx.fz⟩

theorem nmR_iff {p : Nat → Nat} {m a b : Nat} : nmR p m a b = true ↔ b < m ∧ a = p b := by
  simp [nmR, Nat.blt_eq, Nat.beq_eq]

theorem VRep.ren {cx : Cx} {h : Array Obj} {n n2 : Nat → Prop} {p : Nat → Nat} {m : Nat} (hm : ∀ l, l < m → n2 l) : ∀ (k : Nat) (v v2 : V) (x : Value), renN p m k v v2 = true → VRep cx h n v x → VRep (cx.ren p) h n2 v2 x
  | 0, v, v2, x, hs, hv => by cases hs
  | k + 1, v, v2, x, hs, hv => by
    have ih := VRep.ren (cx := cx) (h := h) (n := n) (p := p) hm k
    unfold renN at hs
    split at hs
    · exact .bad _
    · rw [beq_iff_eq] at hs; subst hs; cases hv; exact .b _
    · simp only [Bool.and_eq_true, decide_eq_true_eq, eqZ_eq, beq_iff_eq] at hs
      obtain ⟨rfl, rfl⟩ := hs
      cases hv; exact .i _ _
    · rw [beq_iff_eq] at hs; subst hs; cases hv; exact .s _
    · cases hv; exact .np
    · simp only [Bool.and_eq_true, nmR_iff, Nat.beq_eq] at hs
      obtain ⟨⟨h1, rfl⟩, rfl⟩ := hs
      cases hv
      exact .p (cx := cx.ren p) _ _ (hm _ h1)
    · simp only [Bool.and_eq_true, Nat.beq_eq] at hs
      obtain ⟨h1, rfl⟩ := hs
      obtain ⟨q1, q2⟩ := sameL_get _ _ h1
      cases hv with
      | q v o b d f g1 gz gc gv =>
        exact .q (cx := cx.ren p) _ _ b d f (fun j hj => g1 j (by omega)) (fun j hj => gz j (by omega)) (fun j hj => gc j (by omega)) (fun j hj => ih _ _ _ (q2 j (by omega)) (gv j (by omega)))
    · cases hv; exact .ns
    · simp only [Bool.and_eq_true, nmR_iff, Nat.beq_eq, decide_eq_true_eq] at hs
      obtain ⟨⟨⟨⟨rfl, h1, rfl⟩, rfl⟩, rfl⟩, rfl⟩ := hs
      cases hv with
      | sl sz l o k c cap hl hk hc => exact .sl (cx := cx.ren p) _ _ _ _ _ cap (hm _ h1) hk hc
    · simp only [Bool.and_eq_true, nmR_iff, Nat.beq_eq] at hs
      obtain ⟨rfl, h1, rfl⟩ := hs
      cases hv with
      | se sz l a cap hl hc => exact .se (cx := cx.ren p) _ _ a cap (hm _ h1) hc
    · rename_i z xs c z' ys c'
      simp only [Bool.and_eq_true, Nat.beq_eq] at hs
      obtain ⟨⟨rfl, hc1⟩, hxs⟩ := hs
      obtain ⟨q1, q2⟩ := sameL_get _ _ hxs
      cases hv with
      | pu0 sz c hc0 =>
        have : ys = [] := by cases ys with
          | nil => rfl
          | cons => simp at q1
        subst this
        refine .pu0 _ _ ?_
        cases c <;> cases c' <;> simp_all [capRn, capN]
      | pu sz xs c a cap f ha h1 hs hz hc hv hl hr hp =>
        rw [q1]
        have hys : ∀ i, i < ys.length → i < xs.length := fun i hi => by omega
        have hcl : ∀ i, i < ys.length → (xs.getD i .bad).cells.length = (ys.getD i .bad).cells.length ∧ ∀ j, j < (xs.getD i .bad).cells.length → renN p m k ((xs.getD i .bad).cells.getD j .bad) ((ys.getD i .bad).cells.getD j .bad) = true := fun i hi => sameL_get _ _ (q2 i (hys i hi))
        refine .pu (cx := cx.ren p) z ys c' a cap f (fun hne => ha (fun e => hne ?_)) (fun i j hi hj => h1 i j (hys i hi) hj) (fun i hi => ?_) (fun i j hi hj => hz i j (hys i hi) hj) (fun i j hi hj => hc i j (hys i hi) hj) (fun i j hi hj => ?_) (by omega) ?_ (fun k' hk' => ?_)
        · subst e; cases ys with
          | nil => rfl
          | cons => simp at q1
        · rw [← (hcl i hi).1]; exact hs i (hys i hi)
        · exact ih _ _ _ ((hcl i hi).2 j (by rw [hs i (hys i hi)]; exact hj)) (hv i j (hys i hi) hj)
        · cases c <;> cases c' <;> simp only [capRn, nmR_iff, Nat.beq_eq] at hc1 <;> first | (cases hc1; done) | skip
          · trivial
          · subst hc1; exact hr
          · obtain ⟨g1, rfl⟩ := hc1
            rw [q1] at hr
            exact ⟨hm _ g1, hr.2⟩
          · trivial
        · subst hk'
          cases c <;> simp only [capRn, nmR_iff] at hc1 <;> first | (cases hc1; done) | skip
          exact hp _ rfl
    · simp only [Bool.and_eq_true, Nat.beq_eq] at hs
      obtain ⟨rfl, rfl⟩ := hs
      cases hv; exact .tp _ _
    · cases hv; exact .nm
    · rw [nmR_iff] at hs
      obtain ⟨h1, rfl⟩ := hs
      cases hv; exact .m (cx := cx.ren p) _ (hm _ h1)
    · simp only [Bool.and_eq_true, Nat.beq_eq] at hs
      obtain ⟨rfl, h1⟩ := hs
      obtain ⟨q1, q2⟩ := sameL_get _ _ h1
      cases hv with
      | fn f cs vs hs hv => exact .fn _ _ vs (by omega) (fun j hj => ih _ _ _ (q2 j (by omega)) (hv j (by omega)))
    · cases hv; exact .nf
    · simp only [Bool.and_eq_true, Nat.beq_eq] at hs
      obtain ⟨rfl, h1⟩ := hs
      cases hv with
      | ifc t v x hv => exact .ifc _ _ _ (ih _ _ _ h1 hv)
    · cases hv; exact .ni
    · obtain ⟨q1, q2⟩ := sameL_get _ _ hs
      cases hv with
      | ag cs vs hs h1 hv => exact .ag _ vs (by omega) (fun j hj => h1 j (by omega)) (fun j hj => ih _ _ _ (q2 j (by omega)) (hv j (by omega)))
    · obtain ⟨q1, q2⟩ := sameL_get _ _ hs
      cases hv with
      | tu cs vs hs hv => exact .tu _ vs (by omega) (fun j hj => ih _ _ _ (q2 j (by omega)) (hv j (by omega)))
    · rw [nmR_iff] at hs
      obtain ⟨h1, rfl⟩ := hs
      cases hv; exact .yl (cx := cx.ren p) _ (hm _ h1)
    · cases hs

def lR {α : Type} (q : α → α → Bool) : List α → List α → Bool
  | [], [] => true
  | a :: x, b :: y => q a b && lR q x y
  | _, _ => false

def entR (p : Nat → Nat) (m k : Nat) (a b : V × V × Nat) : Bool := renN p m k a.1 b.1 && (renN p m k a.2.1 b.2.1 && Nat.beq a.2.2 b.2.2)

def oR (p : Nat → Nat) (m k : Nat) : O → O → Bool
  | .c cs z t, .c cs' z' t' => sameL (renN p m k) cs cs' && (Nat.beq z z' && decide (t = t'))
  | .t e, .t e' => Nat.beq e e'
  | .x (.mp es c), .x (.mp es' c') => lR (entR p m k) es es' && Nat.beq c c'
  | .x (.it none a b c), .x (.it none a' b' c') => Nat.beq a a' && (decide (b = b') && Nat.beq c c')
  | .x (.it (some l) a b c), .x (.it (some l') a' b' c') => nmR p m l l' && (Nat.beq a a' && (decide (b = b') && Nat.beq c c'))
  | .x (.df a), .x (.df b) => a == b
  | _, _ => false

theorem ER.ren {cx : Cx} {h : Array Obj} {n n2 : Nat → Prop} {p : Nat → Nat} {m k : Nat} (hm : ∀ l, l < m → n2 l) : ∀ (es es' : List (V × V × Nat)) (l : List MapEntry), lR (entR p m k) es es' = true → All2 (ER cx h n) es l → All2 (ER (cx.ren p) h n2) es' l
  | [], [], l, _, H => by cases H; exact .nil
  | a :: x, b :: y, l, hs, H => by
    simp only [lR, entR, Bool.and_eq_true, Nat.beq_eq] at hs
    obtain ⟨⟨h1, h2, h3⟩, h4⟩ := hs
    cases H with
    | cons g t => exact .cons ⟨by rw [← h3]; exact g.1, g.2.1.ren hm k _ _ _ h1, g.2.2.ren hm k _ _ _ h2⟩ (ER.ren hm x y _ h4 t)
  | [], _ :: _, _, h, _ => by cases h
  | _ :: _, [], _, h, _ => by cases h

theorem ORep.ren {cx : Cx} {h : Array Obj} {n n2 : Nat → Prop} {p : Nat → Nat} {m k : Nat} (hm : ∀ l, l < m → n2 l) {l : Nat} {o o2 : O} (hs : oR p m k o o2 = true) (H : ORep cx h n (p l) o) : ORep (cx.ren p) h n2 l o2 ∧ blk (cx.ren p) l o2 = blk cx (p l) o := by
  unfold oR at hs
  split at hs
  · simp only [Bool.and_eq_true, Nat.beq_eq, decide_eq_true_eq] at hs
    obtain ⟨h1, rfl, rfl⟩ := hs
    obtain ⟨q1, q2⟩ := sameL_get _ _ h1
    obtain ⟨arr, el, lo, hi, a1, a2, a3, a4, a5⟩ := H
    refine ⟨⟨arr, el, lo, hi, a1, ?_, fun j hj => a3 j (by omega), fun j hj => VRep.ren hm k _ _ _ (q2 j (by omega)) (a4 j (by omega)), a5⟩, rfl⟩
    rw [← q1]; exact a2
  · simp only [Nat.beq_eq] at hs
    subst hs
    exact ⟨H, rfl⟩
  · simp only [Bool.and_eq_true, Nat.beq_eq] at hs
    obtain ⟨h1, rfl⟩ := hs
    obtain ⟨g1, lst, g2, g3⟩ := H
    exact ⟨⟨g1, lst, g2, ER.ren hm _ _ _ h1 g3⟩, rfl⟩
  · simp only [Bool.and_eq_true, Nat.beq_eq, decide_eq_true_eq] at hs
    obtain ⟨rfl, rfl, rfl⟩ := hs
    obtain ⟨g1, g2, g3⟩ := H
    exact ⟨⟨g1, g2, fun k hk => by cases hk⟩, rfl⟩
  · simp only [Bool.and_eq_true, Nat.beq_eq, decide_eq_true_eq, nmR_iff] at hs
    obtain ⟨⟨h1, rfl⟩, rfl, rfl, rfl⟩ := hs
    obtain ⟨g1, g2, g3⟩ := H
    exact ⟨⟨g1, g2, fun k hk => by cases hk; exact hm _ h1⟩, rfl⟩
  · rw [beq_iff_eq] at hs
    subst hs
    exact ⟨H, rfl⟩
  · cases hs

/-- all that a trie holds -/
def Tr.allK {α : Type} (q : Nat → α → Bool) : Nat → Nat → Tr α → Bool
  | _, _, .e => true
  | a, b, .n l x r => (match x with
    | none => true
    | some y => q b y) && (Tr.allK q (2 * a) (a + b) l && Tr.allK q (2 * a) (2 * a + b) r)

theorem Tr.allK_get {α : Type} {q : Nat → α → Bool} : ∀ (f : Nat) (t : Tr α) (a b k : Nat) (y : α), Tr.allK q a b t = true → Tr.get f t k = some y → q (a * k + b) y = true := by
  intro f
  induction f with
  | zero => intro t a b k y _ h; cases h
  | succ f ih =>
    intro t a b k y ha h
    cases t with
    | e => cases h
    | n l x r =>
      simp only [Tr.allK, Bool.and_eq_true] at ha
      obtain ⟨h1, h2, h3⟩ := ha
      simp only [Tr.get] at h
      by_cases h0 : k = 0
      · subst h0
        simp only [if_true] at h
        subst h
        simpa using h1
      · rw [if_neg h0] at h
        by_cases hk : k % 2 = 1
        · rw [if_pos hk] at h
          have := ih l _ _ _ _ h2 h
          have e : a * k + b = 2 * a * (k / 2) + (a + b) := by
            have hk2 : k = 2 * (k / 2) + 1 := by omega
            generalize k / 2 = x at hk2
            subst hk2
            rw [Nat.mul_add, Nat.mul_one, Nat.mul_left_comm a 2 x, Nat.mul_assoc 2 a x]; omega
          rw [e]; exact this
        · rw [if_neg hk] at h
          have := ih r _ _ _ _ h3 h
          have e : a * k + b = 2 * a * (k / 2 - 1) + (2 * a + b) := by
            have hk2 : k = 2 * (k / 2 - 1) + 2 := by omega
            generalize k / 2 - 1 = x at hk2
            subst hk2
            rw [Nat.mul_add, Nat.mul_left_comm a 2 x, Nat.mul_assoc 2 a x, Nat.mul_comm a 2]; omega
          rw [e]; exact this

/-- the same state, but for names: here and there -/
def stR (p r : Nat → Nat) (k n0 : Nat) (s s2 : St) : Bool :=
  s2.g.isEmpty && (Nat.ble n0 s2.n && Tr.allK (fun l o2 => Nat.blt l s2.n && (Nat.beq (r (p l)) l && (match s.get (p l) with
    | some o => oR p s2.n k o o2
    | none => false))) 1 0 s2.h)

structure StR (p r : Nat → Nat) (k n0 : Nat) (s s2 : St) : Prop where
  g : s2.g = []
  n : n0 ≤ s2.n
  o : ∀ l o2, s2.get l = some o2 → l < s2.n ∧ r (p l) = l ∧ ∃ o, s.get (p l) = some o ∧ oR p s2.n k o o2 = true

theorem stR_iff {p r : Nat → Nat} {k n0 : Nat} {s s2 : St} (h : stR p r k n0 s s2 = true) : StR p r k n0 s s2 := by
  simp only [stR, Bool.and_eq_true, List.isEmpty_iff, Nat.ble_eq] at h
  obtain ⟨h1, h2, h3⟩ := h
  refine ⟨h1, h2, fun l o2 hl => ?_⟩
  have := Tr.allK_get (l + 1) s2.h 1 0 l o2 h3 hl
  rw [Nat.one_mul, Nat.add_zero] at this
  simp only [Bool.and_eq_true, Nat.blt_eq, Nat.beq_eq] at this
  obtain ⟨g1, g2, g3⟩ := this
  refine ⟨g1, g2, ?_⟩
  split at g3
  · rename_i o ho; exact ⟨o, ho, g3⟩
  · cases g3

theorem StR.L {p r : Nat → Nat} {k n0 : Nat} {s s2 : St} (H : StR p r k n0 s s2) {l : Nat} (hl : l < s2.n) : s2.L l := ⟨hl, by rw [H.g]; exact List.not_mem_nil⟩

theorem Rel.ren {cx : Cx} {p r : Nat → Nat} {k n0 : Nat} {s s2 : St} {h : Array Obj} (H : StR p r k n0 s s2) (R : Rel cx s h) : Rel (cx.ren p) s2 h := by
  have hm : ∀ l, l < s2.n → s2.L l := fun l hl => H.L hl
  have hb : ∀ l o2, s2.get l = some o2 → ∃ o, s.get (p l) = some o ∧ oR p s2.n k o o2 = true ∧ ORep (cx.ren p) h s2.L l o2 ∧ blk (cx.ren p) l o2 = blk cx (p l) o := fun l o2 hl => by
    obtain ⟨-, -, o, h1, h2⟩ := H.o l o2 hl
    exact ⟨o, h1, h2, ORep.ren hm h2 (R.obj _ _ h1)⟩
  refine ⟨fun l hl => ?_, fun l hl => ?_, fun l o hl => ?_, fun l l' o o' h1 h2 hne => ?_, R.fzl, fun l cs z t hl oo hf => ?_, fun l e hl oo hf => ?_⟩
  · cases hg : s2.get l with
    | none => rfl
    | some o => exact (hl (hm l (H.o l o hg).1)).elim
  · rw [H.g] at hl; cases hl
  · obtain ⟨-, -, -, h1, -⟩ := hb l o hl; exact h1
  · obtain ⟨a, a1, -, -, a2⟩ := hb l o h1
    obtain ⟨b, b1, -, -, b2⟩ := hb l' o' h2
    rw [a2, b2]
    refine R.inj _ _ _ _ a1 b1 (fun e => hne ?_)
    rw [← (H.o l o h1).2.1, e, (H.o l' o' h2).2.1]
  · obtain ⟨o, h1, h2, -⟩ := hb l _ hl
    cases o with
    | c cs' z' t' => exact R.fzo _ _ _ _ h1 oo hf
    | t e => simp [oR] at h2
    | x o => simp [oR] at h2
  · obtain ⟨o, h1, h2, -⟩ := hb l _ hl
    cases o with
    | c cs' z' t' => simp [oR] at h2
    | t e' =>
      simp only [oR, Nat.beq_eq] at h2
      subst h2
      exact R.fzt _ _ h1 oo hf
    | x o => simp [oR] at h2

theorem Ext.ren {cxb cx : Cx} {p r : Nat → Nat} {k n0 : Nat} {sb s s2 : St} {hb h : Array Obj} (H : StR p r k n0 s s2) (hn : sb.n ≤ n0) (hp : ∀ l, l < n0 → p l = l) (R : Rel cx s h) (E : Ext cxb sb hb cx s h) : Ext cxb sb hb (cx.ren p) s2 h := by
  have hpl : ∀ l, sb.L l → p l = l := fun l hl => hp l (Nat.lt_of_lt_of_le hl.1 hn)
  refine ⟨⟨fun l hl => H.L (Nat.lt_of_lt_of_le hl.1 (Nat.le_trans hn H.n)), fun l hl => ?_, fun l hl => ?_, E.later.fz, E.later.cell⟩, E.size, E.frame, fun b ⟨l, o2, hl, hbk⟩ => ?_, E.nfz⟩
  · show cx.r (p l) = _; rw [hpl l hl]; exact E.later.r l hl
  · show cx.tk (p l) = _ ∨ _ < (cx.tk (p l)).e; rw [hpl l hl]; exact E.later.tk l hl
  · obtain ⟨-, -, o, h1, h2⟩ := H.o l o2 hl
    have := (ORep.ren (fun l hl => H.L hl) h2 (R.obj _ _ h1)).2
    exact E.own b ⟨p l, o, h1, by rw [← this]; exact hbk⟩

end Rf
