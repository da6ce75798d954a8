/-
  ScriptNil holds: the closed sentence is run, step by step, by the abstract machine in the kernel. No condition beyond the given statement.
-/
import Derived.Test.YtdajbooimahmnabGreatDoorScriptNilDoor
import Derived.Test.YtdajbooimahmnabGreatDoorRfRa
import Derived.Test.YtdajbooimahmnabGreatDoorRows
import Derived.Test.YtdajbooimahmnabGreatDoorCards
import Derived.Test.YtdajbooimahmnabGreatDoorTie
import Derived.WalkKit
import Derived.ProofKit
import Derived.OpenShut
import Derived.LaidMore
import Derived.Stop.Joined
import Derived.SevenTiedAt
import Derived.KernelRfl
set_option linter.all false
namespace Go.Proofs.YtdajbooimahmnabGreatDoor
open Go Rf Go.ChangeShapes Go.WideShapes Go.ChangeAt Go.RowKit
set_option maxRecDepth 100000

theorem scriptNil_tabs {W : World} (hL : laidMetH Tryz.prog Rows.scriptNilRow.laid W) : GRep gt0 (cx0 W) W.heap s0.L :=
  grep_cons (tab_of hL "math/bits.deBruijn64tab" .u8 zs0 (by kernel_rfl) (t := 333) (e := 5) (n := 64) (by kernel_rfl) (by kernel_rfl) (by kernel_rfl) (by kernel_rfl) (by kernel_rfl) (by kernel_rfl)) (grep_cons (tab_of hL "math/bits.deBruijn32tab" .u8 zs1 (by kernel_rfl) (t := 332) (e := 5) (n := 32) (by kernel_rfl) (by kernel_rfl) (by kernel_rfl) (by kernel_rfl) (by kernel_rfl) (by kernel_rfl)) (grep_cons (tab_of hL "internal/strconv.uint64pow10" .u64 zs2 (by kernel_rfl) (t := 224) (e := 181) (n := 20) (by kernel_rfl) (by kernel_rfl) (by kernel_rfl) (by kernel_rfl) (by kernel_rfl) (by kernel_rfl)) grep_nil))

theorem scriptNil_lifted (os : Os) (started : os.Started) (H : Type) (enc : TypeId × Value → H) :
    ReturnsInHanded {} Tryz.checked os 3 .any (fun w args => (Rows.scriptNilSpec.pre enc Tryz.prog Tryz.f3 [] false w args ∧ laidMetH Tryz.prog Rows.scriptNilRow.laid w) ∧ sizedMet enc Tryz.prog Tryz.f3 (OpenSpec.ofChange Rows.scriptNilSpec) false w args)
      (Rows.scriptNilSpec.post enc Tryz.prog Tryz.f3 false true false false) := by
  refine returnsInHanded_of_change_and (C := Tryz.checked) (X := fun w _ => laidMetH Tryz.prog Rows.scriptNilRow.laid w) (fun _ _ _ hh h => h.of_heap hh) own started scriptNil_noInit Tryz.func3 (ChangeSpec.witness_shaped (enc := enc) (C := Tryz.checked) (os := os) (f := 3) (fn := Tryz.f3) (s := Rows.scriptNilSpec) (conds := []) (apart := false) (X := fun w _ => laidMetH Tryz.prog Rows.scriptNilRow.laid w) false (World.doorLaid Tryz.prog 400 os) #[] 8 rfl (World.shaped_of_RefB (scriptNil_sh1 os) (scriptNil_sh2 os)) (scriptNil_ok os) (scriptNil_pre os H enc) (scriptNil_sz os H enc) (scriptNil_door os _)) ?_
  intro W base args ds gs before hval0 hW _ _ hL _
  have hW' := hW
  obtain ⟨p, q, hA0, hV, rfl, hfz, hnd⟩ := hW
  have hA : DataW.TrodAll enc Tryz.prog W 0 (fun _ => true) true Tryz.f3.params.toList args.toList ds p := hA0
  rw [Tryz.params3] at hA
  obtain ⟨he, rfl, rfl⟩ := trodAll_none hA
  have he' : args = #[] := by simpa using he
  subst he'
  obtain ⟨s', hD⟩ := scriptNil_den
  exact law_post scriptNil_lo (by kernel_rfl) (by kernel_rfl) Tryz.underlying4 rfl (fun gs => by cases gs <;> rfl) hW' (scriptNil_tabs hL) ⟨rfl, fun j hj => by simp at hj⟩ hD

end Go.Proofs.YtdajbooimahmnabGreatDoor
