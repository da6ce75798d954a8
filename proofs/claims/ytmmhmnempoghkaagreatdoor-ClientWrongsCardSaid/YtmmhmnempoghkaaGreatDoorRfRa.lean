/-
  Listed tables of integers: what the abstract machine reads of package-level variables.
-/
import Derived.Test.YtmmhmnempoghkaaGreatDoorRfR
import Derived.Lib.LaidTab
import Derived.LaidSub
set_option linter.all false
set_option linter.unusedSimpArgs false
namespace Rf
open Go

def tabV (k : IntKind) (zs : List Int) : V := .ag (zs.map fun z => .i k z)

/-- what is known of package-level variables: by their numbers -/
def gtL : List (Nat × V) → Nat → Option V
  | [], _ => none
  | (j, v) :: r, g => match Nat.beq g j with
    | true => some v
    | false => gtL r g

theorem rep_tab {P : Program} {W : World} {name : String} {g : Nat} {k : IntKind} {zs : List Int} (hT : Lib.TabIs P W name k zs) (hg : P.globalNamed name = some g) : VRep (cx0 W) W.heap s0.L (.q (tabV k zs) 0) (.pointer (some ⟨g, 0, none⟩)) := by
  have hlen : (tabV k zs).cells.length = zs.length := by simp [tabV, V.cells]
  have hc : ∀ j, j < zs.length → cellAt W.heap g (0 + j) = some (.int k (zs.getD j 0)) := fun j hj => by
    rw [Nat.zero_add, ← cell?_eq]; exact hT.cell hg j hj
  refine .q (tabV k zs) 0 g 0 (fun j => .int k (zs.getD j 0)) (fun j _ => rfl) (fun j hj => ?_) (fun j hj => hc j (by omega)) (fun j hj => ?_)
  · show (cellAt W.heap g (0 + j)).isSome = true
    rw [hc j (by omega)]; rfl
  · have hj' : j < zs.length := by omega
    have : (tabV k zs).cells.getD j .bad = .i k (zs.getD j 0) := by simp [tabV, V.cells, List.getD, hj']
    rw [this]; exact .i _ _

theorem tab_of {P : Program} {W : World} {laid : List (String × DataW Unit)} (h : laidMetH P laid W) (name : String) (k : IntKind) (zs : List Int) {g : Nat} {t e : TypeId} {n : Nat}
    (hl : ((laid.filter fun x => x.2.handleName?.isNone).filter fun x => x.1 == name) = [(name, Lib.tabData k zs)])
    (hg : P.globalNamed name = some g) (hty : (P.globals[g]?).map (·.type) = some t) (ht : P.underlying t = some (.array n e)) (he : P.underlying e = some (.int k)) (hce : P.cellsOf e = 1) (hct : P.cellsOf t = n) :
    VRep (cx0 W) W.heap s0.L (.q (tabV k zs) 0) (.pointer (some ⟨g, 0, none⟩)) := by
  have h1 := (laidMetH_iff.1 h).1.filter (fun x => x.1 == name)
  rw [hl] at h1
  exact rep_tab (Lib.tabIs_of_head (rest := []) hg hty ht he hce hct h1) hg

theorem grep_nil {W : World} : GRep (gtL []) (cx0 W) W.heap s0.L := fun g v h => by cases h

theorem grep_cons {W : World} {j : Nat} {v : V} {l : List (Nat × V)} (h : VRep (cx0 W) W.heap s0.L (.q v 0) (.pointer (some ⟨j, 0, none⟩))) (H : GRep (gtL l) (cx0 W) W.heap s0.L) : GRep (gtL ((j, v) :: l)) (cx0 W) W.heap s0.L := fun g u hu => by
  simp only [gtL] at hu
  split at hu
  · rename_i hb
    have := Nat.eq_of_beq_eq_true hb
    subst this
    cases hu; exact h
  · exact H g u hu

end Rf
