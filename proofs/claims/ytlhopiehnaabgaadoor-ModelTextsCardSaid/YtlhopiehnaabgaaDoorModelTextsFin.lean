/-
  ModelTexts holds. No condition beyond the given statement.
-/
import Derived.Test.YtlhopiehnaabgaaDoorMtlaw
import Derived.Test.YtlhopiehnaabgaaDoorLE
import Derived.Lay
import Derived.Test.YtlhopiehnaabgaaDoorLC
import Derived.Test.YtlhopiehnaabgaaDoorCards
import Derived.Test.YtlhopiehnaabgaaDoorTie
import Derived.WalkKit
import Derived.ProofKit
import Derived.OpenShut
import Derived.LaidMore
import Derived.Carry
import Derived.Stop.Joined
import Derived.SevenTiedAt
set_option linter.all false
namespace Go.Proofs.YtlhopiehnaabgaaDoor
open Go Rf Go.ChangeShapes Go.WideShapes Go.ChangeAt Go.RowKit
set_option maxRecDepth 100000

theorem lvS : leaves Tryd.prog Tryd.prog.depth 9 = some [9] := by kernel_rfl
theorem uS : Tryd.prog.underlying 9 = some .string := by kernel_rfl
theorem aS : agP Tryd.prog 9 = some false := by kernel_rfl
theorem star_es : "*" ++ "errors.errorString" = "*errors.errorString" := by decide
theorem row_es (u : TypeId) (h : Tryd.prog.typeName? 3 u = some "*errors.errorString") : u = 185 :=
  typeName_ptr_named (nm := "errors.errorString") (by rw [star_es]; kernel_rfl) (by kernel_rfl) (by decide) u (by rw [star_es]; exact h)
theorem gt1_of {W : World} (hL : laidMetH Tryd.prog Rows.modelTextsRow.laid W) : GRep gt1 (cx0 W) W.heap s0.L :=
  grep_cons (tab_of hL "internal/strconv.uint64pow10" .u64 Lib.pow10Tab (by kernel_rfl) (t := 179) (e := 78) (n := 20) (by kernel_rfl) (by kernel_rfl) (by kernel_rfl) (by kernel_rfl) (by kernel_rfl) (by kernel_rfl))
    (grep_cons (sent_of hL "strconv.ErrSyntax" "*errors.errorString" (d := .ptr (.agg [.lit (.string [105, 110, 118, 97, 108, 105, 100, 32, 115, 121, 110, 116, 97, 120])])) (by kernel_rfl) (by kernel_rfl) (t := 69) (by kernel_rfl) Tryd.underlying69 row_es)
      (grep_cons (sent_of hL "strconv.ErrRange" "*errors.errorString" (d := .ptr (.agg [.lit (.string [118, 97, 108, 117, 101, 32, 111, 117, 116, 32, 111, 102, 32, 114, 97, 110, 103, 101])])) (by kernel_rfl) (by kernel_rfl) (t := 69) (by kernel_rfl) Tryd.underlying69 row_es) grep_nil))

theorem modelTexts_door (os : Os) (args : Array Value) : laidMetH Tryd.prog Rows.modelTextsRow.laid ((World.laidAll Tryd.prog os (Rows.modelTextsRow.laid.filter fun x => x.2.handleName?.isNone)).forCall (fun _ _ => 0) ⟨#[], args, []⟩).memory :=
  laidMetH_of_parts3 (fuel := 8) (laidMet_laidAll args (by kernel_rfl) (by kernel_rfl)) (by kernel_rfl) (by kernel_rfl)

theorem modelTexts_lifted (os : Os) (started : os.Started) (H : Type) (enc : TypeId × Value → H) :
    ReturnsInHanded {} Tryd.checked os 6 .any (fun w args => (Rows.modelTextsSpec.pre enc Tryd.prog Tryd.f6 [] false w args ∧ laidMetH Tryd.prog Rows.modelTextsRow.laid w) ∧ sizedMet enc Tryd.prog Tryd.f6 (OpenSpec.ofChange Rows.modelTextsSpec) false w args)
      (Rows.modelTextsSpec.post enc Tryd.prog Tryd.f6 false true false false) := by
  refine returnsInHanded_of_change_and (C := Tryd.checked) (X := fun w _ => laidMetH Tryd.prog Rows.modelTextsRow.laid w) (fun _ _ _ hh h => h.of_heap hh) own started (by kernel_rfl) Tryd.func6
    (ChangeSpec.witness_shaped (enc := enc) (C := Tryd.checked) (os := os) (X := fun w _ => laidMetH Tryd.prog Rows.modelTextsRow.laid w) false (World.laidAll Tryd.prog os (Rows.modelTextsRow.laid.filter fun x => x.2.handleName?.isNone)) #[.string ⟨#[]⟩] 8 (World.laidAll_os _ _ _) (World.shaped_of_ZipB (by kernel_rfl) (by kernel_rfl)) (by kernel_rfl) (by kernel_rfl) (by kernel_rfl) (modelTexts_door os _)) ?_
  intro W base args ds gs before hval0 hW _ _ hL _
  have hval : ∀ (j : Nat) t v, Tryd.f6.params[j]? = some t → args[j]? = some v → Value.okWide Tryd.prog W .any base t v := hval0
  have hW' := hW
  obtain ⟨p, q, hA0, hV, rfl, hfz, hnd⟩ := hW
  have hA : DataW.TrodAll enc Tryd.prog W 0 (fun _ => true) true Tryd.f6.params.toList args.toList ds p := hA0
  rw [Tryd.params6] at hA hval
  obtain ⟨us, ha, hlen, hsh⟩ := args_of (ts := [9]) (fun j t v h1 h2 => hval j t v (by simpa using h1) (by simpa using h2)) hA (by kernel_rfl)
  obtain ⟨d0, rfl⟩ : ∃ d0, ds = [d0] := by
    obtain ⟨v0, d0, -, hd, -⟩ := trodAll_one hA
    exact ⟨d0, hd⟩
  match us, hlen with
  | [u0], _ =>
    obtain ⟨S, rfl, -⟩ := ((hsh 0 9 rfl).leaf lvS (by rw [aS]; decide)).str uS
    have ha' : ARep (cx0 W) W.heap s0.L [.s S] args := by simpa using ha
    exact law_post (tb := 4) (by kernel_rfl) (by kernel_rfl) (by kernel_rfl) (show Tryd.prog.underlying 4 = some .bool by kernel_rfl) rfl (fun gs => by cases gs <;> rfl) hW' (gt1_of hL) ha'
      (mtlaw_den S s0 (fun l o h => by simp [s0_get] at h))

theorem modelTexts_holds : Rows.ModelTextsSaid :=
  OpenClaim.holds_of_wide 6 Tryd.f6 rfl rfl rfl rfl rfl rfl rfl ⟨rfl, rfl, rfl, rfl, rfl⟩ rfl rfl rfl rfl rfl (by kernel_rfl) Tryd.func6 (by kernel_rfl)
    (of_decide_eq_true (by kernel_rfl)) (by unfold Func.isWrapper; first | (rw [if_pos (by decide +kernel)]; kernel_rfl) | (rw [if_neg (by decide +kernel)]; exact ⟨rfl, rfl⟩))
    (fun os started H enc _ => modelTexts_lifted os started H enc)

theorem modelTexts_card : Rows.ModelTextsCardSaid :=
  Claim7.holds_tied_plain_at .later [] [.data, .data, .data, .data, .sentinel, .sentinel, .pinned] true (true, "6eae1d39769fc99a7b13058748346dc8c729a3eeb42a4f29dab0b5e6802b549e") true
    modelTexts_holds (fun _ h => by cases h) (by kernel_rfl) (fun _ h => by cases h) modelTexts_row_tie rfl ⟨rfl, rfl⟩ (by kernel_rfl) rfl
    (fun f fn hf hfn => by
      obtain rfl : f = 6 := Option.some.inj ((show Tryd.prog.funcNamed Tryd.f6.name = some 6 by kernel_rfl).symm.trans hf) |>.symm
      obtain rfl : fn = Tryd.f6 := (Option.some.inj (Tryd.func6.symm.trans hfn)).symm
      exact ⟨by kernel_rfl, fun j t ht => by
        rw [Tryd.params6] at ht
        have h3 : t = 9 := by
          rcases j with _ | j
          · have := ht.symm; simp at this; subst this; decide
          · simp at ht
        rcases h3 with rfl
        · exact (show Tryd.prog.wantsStandIn 9 = false by kernel_rfl)⟩)
    (by kernel_rfl)
#print axioms modelTexts_card
end Go.Proofs.YtlhopiehnaabgaaDoor
