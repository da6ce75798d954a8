/-
  Sums of events, plainly. No statement stands here.
-/
import Derived.Test.YthoojnjcdllgdaaTplain
set_option linter.all false
namespace TallyP
section
variable {K S E : Type} [DecidableEq K] {lt : K → K → Bool}
def add2 (a b : Int × Int) : Int × Int := (a.1 + b.1, a.2 + b.2)
def tot (n : E → Int) (p : E → Bool) : List E → Int × Int
  | [] => (0, 0)
  | e :: r => if p e = true then add2 (1, n e) (tot n p r) else tot n p r
def adds (pr : S → Int × Int) (n : Int) (f : Option S → S) : Prop := pr (f none) = (1, n) ∧ ∀ s, pr (f (some s)) = add2 (1, n) (pr s)
def sumq (pr : S → Int × Int) (q : K → Bool) : List (K × S) → Int × Int
  | [] => (0, 0)
  | (k, s) :: r => if q k = true then add2 (pr s) (sumq pr q r) else sumq pr q r
theorem add2_comm (a b : Int × Int) : add2 a b = add2 b a := by simp [add2, Int.add_comm]
theorem add2_assoc (a b c : Int × Int) : add2 (add2 a b) c = add2 a (add2 b c) := by simp [add2, Int.add_assoc]
theorem add2_zero (a : Int × Int) : add2 a (0, 0) = a := by simp [add2]
theorem sumq_insR {pr : S → Int × Int} {q : K → Bool} {f : Option S → S} {n : Int} (hf : adds pr n f) (k : K) : ∀ l : List (K × S), sumq pr q (insR lt f k l) = if q k = true then add2 (1, n) (sumq pr q l) else sumq pr q l
  | [] => by
    by_cases h : q k = true
    · simp [insR, sumq, h, hf.1, add2_zero]
    · simp [insR, sumq, h]
  | (a, s) :: r => by
    have ih := sumq_insR (q := q) hf k r
    unfold insR
    split
    · simp only [sumq, ih]
      by_cases h : q k = true <;> by_cases h2 : q a = true <;> simp only [h, h2, if_true, if_false, Bool.false_eq_true]
      rw [← add2_assoc, ← add2_assoc, add2_comm (pr s)]
    · split
      · rename_i e
        subst e
        by_cases h : q a = true
        · simp [sumq, h, hf.2, add2_assoc]
        · simp [sumq, h]
      · by_cases h : q k = true
        · simp [sumq, h, hf.1]
        · simp [sumq, h]
theorem sumq_fold {pr : S → Int × Int} {q : K → Bool} {n : E → Int} {key : E → K} {f : E → Option S → S} (hf : ∀ e, adds pr (n e) (f e)) : ∀ (evs : List E) (l : List (K × S)), sumq pr q (evs.foldl (fun L e => insR lt (f e) (key e) L) l) = add2 (tot n (fun e => q (key e)) evs) (sumq pr q l)
  | [], l => by simp [tot, add2]
  | e :: evs, l => by
    rw [List.foldl_cons, sumq_fold hf evs, sumq_insR (hf e)]
    by_cases h : q (key e) = true
    · simp only [h, if_true, tot]; rw [← add2_assoc, add2_comm (tot n _ evs)]
    · simp only [h, if_false, tot, Bool.false_eq_true]
theorem insR_map {T : Type} {g : S → T} {f : Option S → S} {f' : Option T → T} (h : ∀ o, g (f o) = f' (o.map g)) (k : K) : ∀ l : List (K × S), (insR lt f k l).map (fun x => (x.1, g x.2)) = insR lt f' k (l.map fun x => (x.1, g x.2))
  | [] => by simp [insR, h]
  | (a, s) :: r => by
    have ih := insR_map h k r
    by_cases h1 : lt a k = true
    · simp only [insR, h1, if_true, List.map_cons, ih]
    · by_cases h2 : a = k
      · subst h2
        simp only [insR, h1, if_true, if_false, List.map_cons, Bool.false_eq_true, h, Option.map_some]
      · simp only [insR, h1, h2, if_false, List.map_cons, Bool.false_eq_true, h, Option.map_none]
theorem fold_map {T : Type} {g : S → T} {key : E → K} {f : E → Option S → S} {f' : E → Option T → T} (h : ∀ e o, g (f e o) = f' e (o.map g)) : ∀ (evs : List E) (l : List (K × S)), (evs.foldl (fun L e => insR lt (f e) (key e) L) l).map (fun x => (x.1, g x.2)) = evs.foldl (fun L e => insR lt (f' e) (key e) L) (l.map fun x => (x.1, g x.2))
  | [], _ => rfl
  | e :: evs, l => by rw [List.foldl_cons, List.foldl_cons, fold_map h evs, insR_map (h e)]
end
def fromW (len t : Int) : Int := t - t % len
end TallyP
