/-
  Contract: the document's sums (K). No statement stands here.
-/
import Derived.Test.YthoojnjcdllgdaaTxb
import Derived.Test.YthoojnjcdllgdaaBase
import Derived.Test.YthoojnjcdllgdaaTcell
set_option linter.all false
namespace Go.Proofs.Ythoojnjcdllgdaa
open Go Rf TallyP
set_option maxRecDepth 100000
set_option maxHeartbeats 4000000

abbrev RwK := (Int × Int) × (Int × Int)
def csK (x : RwK) : List V := [.i .i64 x.1.1, .i .i64 x.1.2, .i .i64 x.2.1, .i .i64 x.2.2]
def keyK (m : Mv) : (Int × Int) := (m.to, m.kd)
def s0K (m : Mv) : (Int × Int) := (0, 0)
def gK (m : Mv) (s : (Int × Int)) : (Int × Int) := (wrapF .i64 (s.1 + 1), wrapF .i64 (s.2 + m.rl.length))
def fK (m : Mv) (o : Option (Int × Int)) : (Int × Int) := gK m (o.getD (s0K m))
def EK (xv rv : V) (i E a : Nat) : List V := (.bad :: .bad :: .bad :: xv :: rv :: .i .i64 (i : Nat) :: .p E 0 :: .i .i64 (a : Nat) :: List.replicate 113 .bad)
def refK (es : List Mv) : List RwK := es.foldl (fun l m => insR ltP (fK m) (keyK m) l) []
theorem ref_stepK (es : List Mv) (i : Nat) (m : Mv) (h : es[i]? = some m) : refK (es.take (i + 1)) = insR ltP (fK m) (keyK m) (refK (es.take i)) := by
  unfold refK
  rw [List.take_add_one, h, List.foldl_append]; rfl
theorem ref_lenK (es : List Mv) : ∀ i, i ≤ es.length → (refK (es.take i)).length ≤ i
  | 0, _ => by simp [refK]
  | i + 1, h => by
    have hm : es[i]? = some es[i] := List.getElem?_eq_getElem (by omega)
    rw [ref_stepK es i _ hm]
    have := ref_lenK es i (by omega)
    have := (insG_len (lt := ltP) (f := fK es[i]) (k := keyK es[i]) (refK (es.take i))).2
    omega
end Go.Proofs.Ythoojnjcdllgdaa
