/-
  Contract: the document's sums (P). No statement stands here.
-/
import Derived.Test.YthoojnjcdllgdaaTxb
import Derived.Test.YthoojnjcdllgdaaBase
import Derived.Test.YthoojnjcdllgdaaTcell
set_option linter.all false
namespace Go.Proofs.Ythoojnjcdllgdaa
open Go Rf TallyP
set_option maxRecDepth 100000
set_option maxHeartbeats 4000000

abbrev RwP := Int × Sm
def csP (x : RwP) : List V := [.i .i64 x.1, .i .i64 x.2.1, .i .i64 x.2.2.1, .i .i64 x.2.2.2.1, .i .i64 x.2.2.2.2]
def keyP (m : Mv) : Int := m.to
def s0P (m : Mv) : Sm := (0, 0, m.t, 0)
def gP (m : Mv) (s : Sm) : Sm := (wrapF .i64 (s.1 + 1), wrapF .i64 (s.2.1 + m.rl.length), s.2.2.1, m.t)
def fP (m : Mv) (o : Option Sm) : Sm := gP m (o.getD (s0P m))
def refP (es : List Mv) : List RwP := es.foldl (fun l m => insR ltI (fP m) (keyP m) l) []
theorem ref_stepP (es : List Mv) (i : Nat) (m : Mv) (h : es[i]? = some m) : refP (es.take (i + 1)) = insR ltI (fP m) (keyP m) (refP (es.take i)) := by
  unfold refP
  rw [List.take_add_one, h, List.foldl_append]; rfl
theorem ref_lenP (es : List Mv) : ∀ i, i ≤ es.length → (refP (es.take i)).length ≤ i
  | 0, _ => by simp [refP]
  | i + 1, h => by
    have hm : es[i]? = some es[i] := List.getElem?_eq_getElem (by omega)
    rw [ref_stepP es i _ hm]
    have := ref_lenP es i (by omega)
    have := (insG_len (lt := ltI) (f := fP es[i]) (k := keyP es[i]) (refP (es.take i))).2
    omega
end Go.Proofs.Ythoojnjcdllgdaa
