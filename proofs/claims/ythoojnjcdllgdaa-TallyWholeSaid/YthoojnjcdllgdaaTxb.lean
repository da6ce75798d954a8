/-
  Contract: the document's windows. No statement stands here.
-/
import Derived.Test.YthoojnjcdllgdaaTrw
import Derived.Test.YthoojnjcdllgdaaLF
set_option linter.all false
namespace Go.Proofs.Ythoojnjcdllgdaa
open Go Rf TallyP
set_option maxRecDepth 100000
set_option maxHeartbeats 4000000

def refR (len : Int) (es : List Mv) : List Rw2 := es.foldl (fun l m => insR ltI (incS m.rl.length) (fromW len m.t) l) []
theorem ins_len {kk : Int} {n : Nat} : ∀ l : List Rw2, 0 < (insR ltI (incS n) kk l).length ∧ (insR ltI (incS n) kk l).length ≤ l.length + 1
  | [] => by simp [insR]
  | y :: l => by
    have ih := ins_len (kk := kk) (n := n) l
    obtain ⟨y1, y2⟩ := y
    unfold insR
    split
    · simp only [List.length_cons]; omega
    · split <;> simp only [List.length_cons] <;> omega
theorem ref_step (len : Int) (es : List Mv) (i : Nat) (m : Mv) (h : es[i]? = some m) : refR len (es.take (i + 1)) = insR ltI (incS m.rl.length) (fromW len m.t) (refR len (es.take i)) := by
  unfold refR
  rw [List.take_add_one, h, List.foldl_append]; rfl
theorem ref_len (len : Int) (es : List Mv) : ∀ i, i ≤ es.length → (refR len (es.take i)).length ≤ i
  | 0, _ => by simp [refR]
  | i + 1, h => by
    have hm : es[i]? = some es[i] := List.getElem?_eq_getElem (by omega)
    rw [ref_step len es i _ hm]
    have := ref_len len es i (by omega)
    have := (ins_len (kk := fromW len es[i].t) (n := es[i].rl.length) (refR len (es.take i))).2
    omega
end Go.Proofs.Ythoojnjcdllgdaa
