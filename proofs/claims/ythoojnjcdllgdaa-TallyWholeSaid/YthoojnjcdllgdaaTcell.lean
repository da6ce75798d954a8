/-
  Rows of cells, and insertion in a sorted row, plainly. No statement stands here.
-/
import Derived.Test.YthoojnjcdllgdaaLF
import Derived.Test.YthoojnjcdllgdaaTplain
set_option linter.all false
namespace TallyP
open Go Rf
section
variable {R : Type} {cs : R → List V} {w : Nat}
end
section
variable {K S : Type} [DecidableEq K] {lt : K → K → Bool}
theorem insG_len {f : Option S → S} {k : K} : ∀ l : List (K × S), 0 < (insR lt f k l).length ∧ (insR lt f k l).length ≤ l.length + 1
  | [] => by simp [insR]
  | y :: l => by
    have ih := insG_len (f := f) (k := k) l
    obtain ⟨y1, y2⟩ := y
    unfold insR
    split
    · simp only [List.length_cons]; omega
    · split <;> simp only [List.length_cons] <;> omega
end
end TallyP
