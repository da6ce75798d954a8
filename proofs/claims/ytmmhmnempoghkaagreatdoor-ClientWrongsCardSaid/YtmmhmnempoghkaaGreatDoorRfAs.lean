/-
  One cell of an object is written from outside; blocks of nobody's are made.
-/
import Derived.Test.YtmmhmnempoghkaaGreatDoorRfM
set_option linter.all false
set_option linter.unusedSimpArgs false
namespace Rf
open Go

theorem Rel.put1 {cx : Cx} {s : St} {w : World} (R : Rel cx s w.heap) {l o z : Nat} {cs : List V} {ty : Option Nat} (hg : s.get l = some (.c cs z ty)) (ho : o < cs.length) (hz : z ≤ o) {v : V} {x : Value} (hv : VRep cx w.heap s.L v x) (h1 : x.oneCell' = true) :
    Rel cx (s.put l (some (.c (cs.set o v) z ty))) (w.setCell ⟨(cx.r l).b, (cx.r l).d + o, none⟩ x).heap ∧ Ext cx s w.heap cx (s.put l (some (.c (cs.set o v) z ty))) (w.setCell ⟨(cx.r l).b, (cx.r l).d + o, none⟩ x).heap := by
  obtain ⟨arr, el, lo, hi, a1, ⟨a2, a2k, a2z, a2t⟩, a3, a4, a5⟩ := R.obj l _ hg
  have hget : ∀ j, j < cs.length → (arr.setIfInBounds ((cx.r l).d + o) x).getD ((cx.r l).d + j) undef = if j = o then x else arr.getD ((cx.r l).d + j) undef := fun j hj => by
    rw [Array.getD_eq_getD_getElem?, Array.getElem?_setIfInBounds]
    by_cases h : j = o
    · subst h; rw [if_pos rfl, if_pos rfl, if_pos (by omega)]; rfl
    · rw [if_neg (by omega), if_neg h, Array.getD_eq_getD_getElem?]
  refine R.upd hg (cs.set o v) z (arr.setIfInBounds ((cx.r l).d + o) x) el lo hi ⟨_, _, a1⟩ (fun T hT => (a2t T hT).2.2) (by simpa using a2) (by simp) (by simpa using a2z) (fun j hj => ?_) (fun j hj => ?_) (by simpa using a5) _ (setCell_heap w _ _ x a1)
  · rw [hget j (by simpa using hj)]
    split
    · exact h1
    · exact a3 j (by simpa using hj)
  · have hj' : j < cs.length := by simpa using hj
    rw [hget j hj', List.getD, List.getElem?_set]
    by_cases h : j = o
    · subst h; rw [if_pos rfl, if_pos rfl, if_pos hj']; exact hv
    · rw [if_neg (fun e => h e.symm), if_neg h]; exact a4 j hj'

/-- a pointer's address, whatever kind it is -/
def isPtr : V → Bool
  | .p .. => true
  | .q .. => true
  | _ => false
theorem ptr_of {cx : Cx} {h : Array Obj} {n : Nat → Prop} {v : V} {x : Value} (hp : isPtr v = true) (hv : VRep cx h n v x) : ∃ b o, x = .pointer (some ⟨b, o, none⟩) := by
  unfold isPtr at hp
  split at hp
  · cases hv; exact ⟨_, _, rfl⟩
  · cases hv; exact ⟨_, _, rfl⟩
  · cases hp

/-- what a handle's variable holds -/
theorem rep_handle {W : World} {g R N T : Nat} (h : W.cell? ⟨g, 0, none⟩ = some (.iface R (.agg #[.pointer (some ⟨N, T, none⟩)]))) {cx : Cx} (hf : ∀ b o, (cellAt W.heap b o).isSome = true → cx.fz b o) {n : Nat → Prop} : VRep cx W.heap n (.q (.ifc R (.ag [.tp N T])) 0) (.pointer (some ⟨g, 0, none⟩)) := by
  rw [cell?_eq] at h
  refine .q _ 0 g 0 (fun _ => .iface R (.agg #[.pointer (some ⟨N, T, none⟩)])) (fun j _ => rfl) (fun j hj => ?_) (fun j hj => ?_) (fun j hj => ?_)
  · have : j = 0 := by simp [V.cells] at hj; omega
    subst this
    exact hf _ _ (by rw [h]; rfl)
  · have : j = 0 := by simp [V.cells] at hj; omega
    subst this; exact h
  · have : j = 0 := by simp [V.cells] at hj; omega
    subst this
    refine .ifc _ _ _ (.ag _ _ rfl (fun i hi => ?_) (fun i hi => ?_))
    · have : i = 0 := by simp at hi; omega
      subst this; rfl
    · have : i = 0 := by simp at hi; omega
      subst this; exact .tp _ _

theorem handle_inv {gt : Nat → Option V} {cx : Cx} {W : World} {n : Nat → Prop} {g R N T : Nat} (G : GRep gt cx W.heap n) (hg : gt g = some (.ifc R (.ag [.tp N T]))) : W.cell? ⟨g, 0, none⟩ = some (.iface R (.agg #[.pointer (some ⟨N, T, none⟩)])) := by
  have h := G g _ hg
  generalize hx : Value.pointer (some ⟨g, 0, none⟩) = x at h
  cases h with
  | q v o b d f h1 hz hc hv =>
    cases hx
    have h0 := hv 0 (by simp [V.cells])
    have c0 := hc 0 (by simp [V.cells])
    rw [cell?_eq]
    generalize f 0 = y at h0 c0
    have h0 : VRep cx W.heap n (.ifc R (.ag [.tp N T])) y := h0
    cases h0 with
    | ifc _ _ z h2 =>
      cases h2 with
      | ag _ vs hs h1 hv =>
        have hv0 := hv 0 (by simp)
        have hvs : vs = #[vs.getD 0 undef] := by
          apply Array.ext
          · simpa using hs
          · intro i h1 h2
            have : i = 0 := by simp at h2; omega
            subst this
            simp [Array.getD_eq_getD_getElem?, h1]
        generalize vs.getD 0 undef = u at hv0 hvs
        have hv0 : VRep cx W.heap n (.tp N T) u := hv0
        cases hv0
        subst hvs
        simpa using c0
end Rf
