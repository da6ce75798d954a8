/-
  Sums of events, plainly. No statement stands here.
-/
import Derived.Test.YthoojnjcdllgdaaTplain
set_option linter.all false
namespace TallyP
section
variable {K S E : Type} [DecidableEq K] {lt : K → K → Bool}
def add2 (a b : Int × Int) : Int × Int := (a.1 + b.1, a.2 + b.2)
def tot (n : E → Int) (p : E → Bool) : List E → Int × Int
  | [] => (0, 0)
  | e :: r => if p e = true then add2 (1, n e) (tot n p r) else tot n p r
def adds (pr : S → Int × Int) (n : Int) (f : Option S → S) : Prop := pr (f none) = (1, n) ∧ ∀ s, pr (f (some s)) = add2 (1, n) (pr s)
def sumq (pr : S → Int × Int) (q : K → Bool) : List (K × S) → Int × Int
  | [] => (0, 0)
  | (k, s) :: r => if q k = true then add2 (pr s) (sumq pr q r) else sumq pr q r
theorem add2_comm (a b : Int × Int) : add2 a b = add2 b a := by simp [add2, Int.add_comm]
theorem add2_assoc (a b c : Int × Int) : add2 (add2 a b) c = add2 a (add2 b c) := by simp [add2, Int.add_assoc]
theorem add2_zero (a : Int × Int) : add2 a (0, 0) = a := by simp [add2]
theorem sumq_insR {pr : S → Int × Int} {q : K → Bool} {f : Option S → S} {n : Int} (hf : adds pr n f) (k : K) : ∀ l : List (K × S), sumq pr q (insR lt f k l) = if q k = true then add2 (1, n) (sumq pr q l) else sumq pr q l
  | [] => by
    by_cases h : q k = true
    · simp [insR, sumq, h, hf.1, add2_zero]
    · simp [insR, sumq, h]
  | (a, s) :: r => by
    have ih := sumq_insR (q := q) hf k r
    unfold insR
    split
    · simp only [sumq, ih]
      by_cases h : q k = true <;> by_cases h2 : q a = true <;> simp only [h, h2, if_true, if_false, Bool.false_eq_true]
      rw [← add2_assoc, ← add2_assoc, add2_comm (pr s)]
    · split
      · rename_i e
        subst e
        by_cases h : q a = true
        · simp [sumq, h, hf.2, add2_assoc]
        · simp [sumq, h]
      · by_cases h : q k = true
        · simp [sumq, h, hf.1]
        · simp [sumq, h]
theorem sumq_fold {pr : S → Int × Int} {q : K → Bool} {n : E → Int} {key : E → K} {f : E → Option S → S} (hf : ∀ e, adds pr (n e) (f e)) : ∀ (evs : List E) (l : List (K × S)), sumq pr q (evs.foldl (fun L e => insR lt (f e) (key e) L) l) = add2 (tot n (fun e => q (key e)) evs) (sumq pr q l)
  | [], l => by simp [tot, add2]
  | e :: evs, l => by
    rw [List.foldl_cons, sumq_fold hf evs, sumq_insR (hf e)]
    by_cases h : q (key e) = true
    · simp only [h, if_true, tot]; rw [← add2_assoc, add2_comm (tot n _ evs)]
    · simp only [h, if_false, tot, Bool.false_eq_true]
theorem sumq_one (O : Ord lt) {pr : S → Int × Int} : ∀ {l : List (K × S)} {k : K} {s : S}, Asc lt l → (k, s) ∈ l → sumq pr (fun x => decide (x = k)) l = pr s
  | (a, t) :: r, k, s, h, hm => by
    have h1 := (List.pairwise_cons.1 h).1
    have h2 : Asc lt r := (List.pairwise_cons.1 h).2
    have hz : ∀ {k : K} {r : List (K × S)}, k ∉ keysL r → sumq pr (fun x => decide (x = k)) r = (0, 0) := fun {k r} => by
      induction r with
      | nil => intro _; rfl
      | cons x r ih =>
        intro hk
        have hk1 : ¬ x.1 = k := fun e => hk (by subst e; exact List.mem_cons_self ..)
        have hk2 : k ∉ keysL r := fun h => hk (List.mem_cons_of_mem _ h)
        simp [sumq, hk1, ih hk2]
    rcases List.mem_cons.1 hm with e | hm
    · cases e
      have hn : a ∉ keysL r := fun hk => by have := h1 a hk; rw [O.irr] at this; cases this
      simp [sumq, hz hn, add2_zero]
    · have hne : ¬ a = k := fun e => by
        subst e
        have := h1 a (List.mem_map_of_mem (f := (·.1)) hm)
        rw [O.irr] at this; cases this
      simp only [sumq, hne, decide_false, Bool.false_eq_true, if_false]
      exact sumq_one O h2 hm
theorem key_fold {key : E → K} {f : E → Option S → S} : ∀ {evs : List E} {l : List (K × S)} {x : K} {s : S}, (x, s) ∈ evs.foldl (fun L e => insR lt (f e) (key e) L) l → (∃ e ∈ evs, key e = x) ∨ x ∈ keysL l
  | [], l, x, s, h => .inr (List.mem_map_of_mem (f := (·.1)) h)
  | e :: evs, l, x, s, h => by
    rcases key_fold (evs := evs) h with ⟨e', he, hk⟩ | h
    · exact .inl ⟨e', List.mem_cons_of_mem _ he, hk⟩
    · rcases insR_mem h with h | h
      · exact .inl ⟨e, List.mem_cons_self .., h.symm⟩
      · exact .inr h
theorem insR_map {T : Type} {g : S → T} {f : Option S → S} {f' : Option T → T} (h : ∀ o, g (f o) = f' (o.map g)) (k : K) : ∀ l : List (K × S), (insR lt f k l).map (fun x => (x.1, g x.2)) = insR lt f' k (l.map fun x => (x.1, g x.2))
  | [] => by simp [insR, h]
  | (a, s) :: r => by
    have ih := insR_map h k r
    by_cases h1 : lt a k = true
    · simp only [insR, h1, if_true, List.map_cons, ih]
    · by_cases h2 : a = k
      · subst h2
        simp only [insR, h1, if_true, if_false, List.map_cons, Bool.false_eq_true, h, Option.map_some]
      · simp only [insR, h1, h2, if_false, List.map_cons, Bool.false_eq_true, h, Option.map_none]
theorem fold_map {T : Type} {g : S → T} {key : E → K} {f : E → Option S → S} {f' : E → Option T → T} (h : ∀ e o, g (f e o) = f' e (o.map g)) : ∀ (evs : List E) (l : List (K × S)), (evs.foldl (fun L e => insR lt (f e) (key e) L) l).map (fun x => (x.1, g x.2)) = evs.foldl (fun L e => insR lt (f' e) (key e) L) (l.map fun x => (x.1, g x.2))
  | [], _ => rfl
  | e :: evs, l => by rw [List.foldl_cons, List.foldl_cons, fold_map h evs, insR_map (h e)]
end
def fromW (len t : Int) : Int := t - t % len
theorem from_two {len t : Int} (h : 0 < len) : fromW (2 * len) t = fromW len t ∨ fromW (2 * len) t + len = fromW len t := by
  unfold fromW
  have h1 := Int.emod_emod_of_dvd t (show len ∣ 2 * len from ⟨2, by rw [Int.mul_comm]⟩)
  have h2 := Int.emod_nonneg t (show (2 * len : Int) ≠ 0 by omega)
  have h3 := Int.emod_lt_of_pos t (show 0 < 2 * len by omega)
  have h4 := Int.emod_nonneg t (show len ≠ 0 by omega)
  have h5 := Int.emod_lt_of_pos t h
  generalize t % (2 * len) = r at *
  rcases Int.lt_or_le r len with hr | hr
  · left
    rw [Int.emod_eq_of_lt h2 hr] at h1
    omega
  · right
    have : r % len = r - len := by
      rw [show r = (r - len) + len * 1 by omega, Int.add_mul_emod_self_left, Int.emod_eq_of_lt (by omega) (by omega)]; omega
    omega
theorem from_win {len t u : Int} (h : 0 < len) : fromW (2 * len) t = fromW (2 * len) u ↔ fromW len t = fromW (2 * len) u ∨ fromW len t = fromW (2 * len) u + len := by
  constructor
  · intro e
    rcases from_two (t := t) h with h1 | h1 <;> omega
  · intro e
    -- both are multiples of 2 len
    have m : ∀ x : Int, 2 * len ∣ fromW (2 * len) x := fun x => by
      unfold fromW
      exact Int.dvd_self_sub_emod
    obtain ⟨a, ha⟩ := m t
    obtain ⟨b, hb⟩ := m u
    have hd : fromW (2 * len) t - fromW (2 * len) u = 0 ∨ fromW (2 * len) t - fromW (2 * len) u = len ∨ fromW (2 * len) t - fromW (2 * len) u = -len := by
      rcases from_two (t := t) h with h1 | h1 <;> omega
    have hab : fromW (2 * len) t - fromW (2 * len) u = 2 * len * (a - b) := by rw [ha, hb, Int.mul_sub]
    have hz : a - b = 0 := by
      rcases Int.lt_trichotomy (a - b) 0 with hx | hx | hx
      · have : 2 * len * (a - b) ≤ 2 * len * (-1) := Int.mul_le_mul_of_nonneg_left (by omega) (by omega)
        omega
      · exact hx
      · have : 2 * len * 1 ≤ 2 * len * (a - b) := Int.mul_le_mul_of_nonneg_left (by omega) (by omega)
        omega
    rw [hz] at hab
    omega
end TallyP
