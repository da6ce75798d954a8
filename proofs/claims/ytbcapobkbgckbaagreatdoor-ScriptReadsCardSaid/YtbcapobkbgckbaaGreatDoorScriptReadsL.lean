/-
  ScriptReads: the arguments read, the law lifted.
-/
import Derived.Test.YtbcapobkbgckbaaGreatDoorSlr
import Derived.Test.YtbcapobkbgckbaaGreatDoorLD
import Derived.Test.YtbcapobkbgckbaaGreatDoorLF
import Derived.Lay
import Derived.WalkKit
import Derived.ProofKit
import Derived.OpenShut
import Derived.LaidMore
import Derived.Carry
import Derived.Stop.Joined
import Derived.SevenTiedAt
import Derived.KernelRfl
set_option linter.all false
namespace Go.Proofs.YtbcapobkbgckbaaGreatDoor
open Go Rf Go.ChangeShapes Go.WideShapes Go.ChangeAt Go.RowKit
set_option maxRecDepth 100000
set_option maxHeartbeats 4000000

theorem star_es : "*" ++ "errors.errorString" = "*errors.errorString" := by decide
theorem row_es (u : TypeId) (h : Tryz.prog.typeName? 3 u = some "*errors.errorString") : u = 329 :=
  typeName_ptr_named (nm := "errors.errorString") (by rw [star_es]; kernel_rfl) (by kernel_rfl) (by decide) u (by rw [star_es]; exact h)
theorem gt1_of {W : World} (hL : laidMetH Tryz.prog Rows.scriptReadsRow.laid W) : GRep gt1 (cx0 W) W.heap s0.L :=
  grep_cons (tab_of hL "internal/strconv.uint64pow10" .u64 Lib.pow10Tab (by kernel_rfl) (t := 252) (e := 88) (n := 20) (by kernel_rfl) (by kernel_rfl) (by kernel_rfl) (by kernel_rfl) (by kernel_rfl) (by kernel_rfl))
    (grep_cons (sent_of hL "strconv.ErrSyntax" "*errors.errorString" (d := .ptr (.agg [.lit (.string [105, 110, 118, 97, 108, 105, 100, 32, 115, 121, 110, 116, 97, 120])])) (by kernel_rfl) (by kernel_rfl) (t := 52) (by kernel_rfl) Tryz.underlying52 row_es)
      (grep_cons (sent_of hL "strconv.ErrRange" "*errors.errorString" (d := .ptr (.agg [.lit (.string [118, 97, 108, 117, 101, 32, 111, 117, 116, 32, 111, 102, 32, 114, 97, 110, 103, 101])])) (by kernel_rfl) (by kernel_rfl) (t := 52) (by kernel_rfl) Tryz.underlying52 row_es)
        (grep_cons (tab_of hL "math/bits.deBruijn64tab" .u8 dbT (by kernel_rfl) (t := 424) (e := 5) (n := 64) (by kernel_rfl) (by kernel_rfl) (by kernel_rfl) (by kernel_rfl) (by kernel_rfl) (by kernel_rfl)) grep_nil)))
noncomputable def hWd (P : Program) (os : Os) (g ty : Nat) : World :=
  match (P.cutTypes.find? (·.1 == "internal/reflectlite.rtype")).map (·.2), (World.holding P os ⟨#[], #[], []⟩).heap[g]? with
  | some u, some (.cells _ el fr) => { World.holding P os ⟨#[], #[], []⟩ with heap := (World.holding P os ⟨#[], #[], []⟩).heap.setIfInBounds g (.cells #[.iface u (.agg #[typeHandle P ty])] el fr) }
  | _, _ => World.holding P os ⟨#[], #[], []⟩
theorem hWd_os (P : Program) (os : Os) (g ty : Nat) : (hWd P os g ty).os = os := by unfold hWd; split <;> rfl
theorem met_lay {P : Program} {w0 : World} {laid : List (String × DataW Unit)} (args : Array Value) (hf : w0.layFits P laid [] = true) (hi : w0.layIfaces P laid (w0.layVars P laid) = true) :
    laidMet P laid ((w0.layVars P laid).forCall (fun _ _ => 0) ⟨#[], args, []⟩).memory := by
  have e1 : (laid.filter fun x => (laid.map (·.1)).contains x.1) = laid := List.filter_eq_self.2 fun x hx => List.contains_iff_mem.2 (List.mem_map.2 ⟨x, hx, rfl⟩)
  have e2 : (laid.filter fun x => !(laid.map (·.1)).contains x.1) = [] := List.filter_eq_nil_iff.2 fun x hx => by rw [List.contains_iff_mem.2 (List.mem_map.2 ⟨x, hx, rfl⟩)]; simp
  have h : laidMet P laid (w0.layVars P laid) := laidMet_layVars (w0 := w0) (laid.map (·.1)) [] (by rw [e1]) (by rw [e1]; exact hf) (by rw [e1]; exact hi) (by rw [e2]; exact LaidIn.none)
  exact h.of_heap (by simp [World.memory, World.forCall, Input.heap])
theorem lvS : leaves Tryz.prog Tryz.prog.depth 9 = some [9] := by kernel_rfl
theorem uS : Tryz.prog.underlying 9 = some .string := by kernel_rfl
theorem aS : agP Tryz.prog 9 = some false := by kernel_rfl

theorem scriptReads_door (os : Os) (args : Array Value) : laidMetH Tryz.prog Rows.scriptReadsRow.laid (((hWd Tryz.prog os 4 52).layVars Tryz.prog (Rows.scriptReadsRow.laid.filter fun x => x.2.handleName?.isNone)).forCall (fun _ _ => 0) ⟨#[], args, []⟩).memory :=
  laidMetH_of_parts3 (fuel := 8) (met_lay args (by as_aux_lemma => kernel_rfl) (by as_aux_lemma => kernel_rfl)) (by as_aux_lemma => kernel_rfl) (by as_aux_lemma => kernel_rfl)

theorem scriptReads_lifted (os : Os) (started : os.Started) (H : Type) (enc : TypeId × Value → H) :
    ReturnsInHanded {} Tryz.checked os 4 .any (fun w args => (Rows.scriptReadsSpec.pre enc Tryz.prog Tryz.f4 [] false w args ∧ laidMetH Tryz.prog Rows.scriptReadsRow.laid w) ∧ sizedMet enc Tryz.prog Tryz.f4 (OpenSpec.ofChange Rows.scriptReadsSpec) false w args)
      (Rows.scriptReadsSpec.post enc Tryz.prog Tryz.f4 false true false false) := by
  refine returnsInHanded_of_change_and (C := Tryz.checked) (X := fun w _ => laidMetH Tryz.prog Rows.scriptReadsRow.laid w) (fun _ _ _ hh h => h.of_heap hh) own started (by as_aux_lemma => kernel_rfl) Tryz.func4
    (ChangeSpec.witness_shaped (enc := enc) (C := Tryz.checked) (os := os) (X := fun w _ => laidMetH Tryz.prog Rows.scriptReadsRow.laid w) false ((hWd Tryz.prog os 4 52).layVars Tryz.prog (Rows.scriptReadsRow.laid.filter fun x => x.2.handleName?.isNone)) #[.string ⟨#[]⟩] 8 ((World.layVars_os _ _ _).trans (hWd_os _ _ _ _)) (World.shaped_of_ZipB (by as_aux_lemma => kernel_rfl) (by as_aux_lemma => kernel_rfl)) (by as_aux_lemma => kernel_rfl) (by as_aux_lemma => kernel_rfl) (by as_aux_lemma => kernel_rfl) (scriptReads_door os _)) ?_
  intro W base args ds gs before hval0 hW _ _ hL _
  have hval : ∀ (j : Nat) t v, Tryz.f4.params[j]? = some t → args[j]? = some v → Value.okWide Tryz.prog W .any base t v := hval0
  have hW' := hW
  obtain ⟨p, q, hA0, hV, rfl, hfz, hnd⟩ := hW
  have hA : DataW.TrodAll enc Tryz.prog W 0 (fun _ => true) true Tryz.f4.params.toList args.toList ds p := hA0
  rw [Tryz.params4] at hA hval
  obtain ⟨us, ha, hlen, hsh⟩ := args_of (ts := [9]) (fun j t v h1 h2 => hval j t v (by simpa using h1) (by simpa using h2)) hA (by kernel_rfl)
  obtain ⟨d0, rfl⟩ : ∃ d0, ds = [d0] := by
    obtain ⟨v0, d0, -, hd, -⟩ := trodAll_one hA
    exact ⟨d0, hd⟩
  match us, hlen with
  | [u0], _ =>
    obtain ⟨S, rfl, -⟩ := ((hsh 0 9 rfl).leaf lvS (by rw [aS]; decide)).str uS
    have ha' : ARep (cx0 W) W.heap s0.L [.s S] args := by simpa using ha
    exact law_post (tb := 4) (by as_aux_lemma => kernel_rfl) (by as_aux_lemma => kernel_rfl) (by as_aux_lemma => kernel_rfl) (show Tryz.prog.underlying 4 = some .bool by as_aux_lemma => kernel_rfl) rfl (fun gs => by cases gs <;> rfl) hW' (gt1_of hL) ha'
      (rlaw_den S s0 (fun l o h => by simp [s0_get] at h))

end Go.Proofs.YtbcapobkbgckbaaGreatDoor
