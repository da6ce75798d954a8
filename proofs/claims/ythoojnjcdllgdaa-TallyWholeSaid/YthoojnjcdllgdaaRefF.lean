/-
  Contract: the document's sums (F). No statement stands here.
-/
import Derived.Test.YthoojnjcdllgdaaTxb
import Derived.Test.YthoojnjcdllgdaaBase
import Derived.Test.YthoojnjcdllgdaaTcell
set_option linter.all false
namespace Go.Proofs.Ythoojnjcdllgdaa
open Go Rf TallyP
set_option maxRecDepth 100000
set_option maxHeartbeats 4000000

abbrev RwF := (Int × Int) × Int
def csF (x : RwF) : List V := [.i .i64 x.1.1, .i .i64 x.1.2, .i .i64 x.2]
def keyF (m : Mv) : (Int × Int) := (m.og, m.to)
def s0F (m : Mv) : Int := 0
def gF (m : Mv) (s : Int) : Int := wrapF .i64 (s + 1)
def fF (m : Mv) (o : Option Int) : Int := gF m (o.getD (s0F m))
def refF (es : List Mv) : List RwF := es.foldl (fun l m => insR ltP (fF m) (keyF m) l) []
theorem ref_stepF (es : List Mv) (i : Nat) (m : Mv) (h : es[i]? = some m) : refF (es.take (i + 1)) = insR ltP (fF m) (keyF m) (refF (es.take i)) := by
  unfold refF
  rw [List.take_add_one, h, List.foldl_append]; rfl
theorem ref_lenF (es : List Mv) : ∀ i, i ≤ es.length → (refF (es.take i)).length ≤ i
  | 0, _ => by simp [refF]
  | i + 1, h => by
    have hm : es[i]? = some es[i] := List.getElem?_eq_getElem (by omega)
    rw [ref_stepF es i _ hm]
    have := ref_lenF es i (by omega)
    have := (insG_len (lt := ltP) (f := fF es[i]) (k := keyF es[i]) (refF (es.take i))).2
    omega
end Go.Proofs.Ythoojnjcdllgdaa
