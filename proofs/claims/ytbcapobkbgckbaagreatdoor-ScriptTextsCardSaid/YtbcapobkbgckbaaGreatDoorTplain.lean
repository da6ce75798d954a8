/-
  Sums by keys, plainly: a list sorted by keys, and a map, come to the same. No statement stands here.
-/
set_option linter.all false
namespace TallyP

section
variable {K S : Type} [DecidableEq K] {lt : K → K → Bool}

def insR (lt : K → K → Bool) (f : Option S → S) (k : K) : List (K × S) → List (K × S)
  | [] => [(k, f none)]
  | (a, s) :: r => if lt a k = true then (a, s) :: insR lt f k r else if a = k then (a, f (some s)) :: r else (k, f none) :: (a, s) :: r
def updM (f : Option S → S) (k : K) : List (K × S) → List (K × S)
  | [] => [(k, f none)]
  | (a, s) :: r => if a = k then (a, f (some s)) :: r else (a, s) :: updM f k r
def lkk (k : K) : List (K × S) → Option S
  | [] => none
  | (a, s) :: r => if a = k then some s else lkk k r
end
end TallyP
