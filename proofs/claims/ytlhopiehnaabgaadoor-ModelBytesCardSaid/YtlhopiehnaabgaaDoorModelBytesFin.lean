/-
  ModelBytes holds. No condition beyond the given statement.
-/
import Derived.Test.YtlhopiehnaabgaaDoorMlaw
import Derived.Test.YtlhopiehnaabgaaDoorLC
import Derived.Test.YtlhopiehnaabgaaDoorLE
import Derived.Test.YtlhopiehnaabgaaDoorCards
import Derived.Test.YtlhopiehnaabgaaDoorTie
import Derived.WalkKit
import Derived.ProofKit
import Derived.OpenShut
import Derived.LaidMore
import Derived.Carry
import Derived.Stop.Joined
import Derived.SevenTiedAt
set_option linter.all false
namespace Go.Proofs.YtlhopiehnaabgaaDoor
open Go Rf Go.ChangeShapes Go.WideShapes Go.ChangeAt Go.RowKit
set_option maxRecDepth 100000

theorem lvB : leaves Tryd.prog Tryd.prog.depth 22 = some [22] := by kernel_rfl
theorem uB : Tryd.prog.underlying 22 = some (.slice 5) := by kernel_rfl
theorem lv5 : leaves Tryd.prog Tryd.prog.depth 5 = some [5] := by kernel_rfl
theorem u5 : Tryd.prog.underlying 5 = some (.int .u8) := by kernel_rfl
theorem aB : agP Tryd.prog 22 = some false := by kernel_rfl
theorem a5 : agP Tryd.prog 5 = some false := by kernel_rfl
theorem byte_of (x : V) (h : ASh Tryd.prog 5 x) : ∃ b : UInt8, x = bV b := by
  obtain ⟨n, rfl, hw⟩ := (h.leaf lv5 (by rw [a5]; decide)).int u5
  have hn : 0 ≤ n ∧ n ≤ 255 := by simpa [Lit.wf, IntKind.min, IntKind.max, IntKind.bits, IntKind.signed] using hw
  refine ⟨UInt8.ofNat n.toNat, ?_⟩
  rw [bV, UInt8.toNat_ofNat']
  congr 1
  omega
theorem bytes_of : ∀ (xs : List V), (∀ x ∈ xs, ASh Tryd.prog 5 x) → ∃ bs : List UInt8, xs = bs.map bV
  | [], _ => ⟨[], rfl⟩
  | x :: r, h => by
    obtain ⟨b, rfl⟩ := byte_of x (h x (List.mem_cons_self ..))
    obtain ⟨bs, rfl⟩ := bytes_of r (fun y hy => h y (List.mem_cons_of_mem _ hy))
    exact ⟨b :: bs, rfl⟩
theorem bs_of {x : V} (h : ASh Tryd.prog 22 x) : ∃ bs : List UInt8, x = bsV bs := by
  obtain ⟨xs, e1, -, hxa⟩ := (h.leaf lvB (by rw [aB]; decide)).slice uB lv5 (by decide)
  obtain ⟨bs, rfl⟩ := bytes_of xs hxa
  exact ⟨bs, e1⟩

theorem modelBytes_door (os : Os) (args : Array Value) : laidMetH Tryd.prog Rows.modelBytesRow.laid ((World.doorLaid Tryd.prog 400 os).forCall (fun _ _ => 0) ⟨#[], args, []⟩).memory :=
  laidMetH_of_parts3 (fuel := 8) (laidMet_of_run' 8 (by kernel_rfl) (by kernel_rfl)) (by kernel_rfl) (by kernel_rfl)

theorem modelBytes_lifted (os : Os) (started : os.Started) (H : Type) (enc : TypeId × Value → H) :
    ReturnsInHanded {} Tryd.checked os 3 .any (fun w args => (Rows.modelBytesSpec.pre enc Tryd.prog Tryd.f3 [] false w args ∧ laidMetH Tryd.prog Rows.modelBytesRow.laid w) ∧ sizedMet enc Tryd.prog Tryd.f3 (OpenSpec.ofChange Rows.modelBytesSpec) false w args)
      (Rows.modelBytesSpec.post enc Tryd.prog Tryd.f3 false true false false) := by
  refine returnsInHanded_of_change_and (C := Tryd.checked) (X := fun w _ => laidMetH Tryd.prog Rows.modelBytesRow.laid w) (fun _ _ _ hh h => h.of_heap hh) own started (by kernel_rfl) Tryd.func3
    (ChangeSpec.witness_shaped (enc := enc) (C := Tryd.checked) (os := os) (X := fun w _ => laidMetH Tryd.prog Rows.modelBytesRow.laid w) false (World.doorLaid Tryd.prog 400 os) #[.slice none 0 0] 8 rfl (World.shaped_of_RefB (by kernel_rfl) (by kernel_rfl)) (by kernel_rfl) (by kernel_rfl) (by kernel_rfl) (modelBytes_door os _)) ?_
  intro W base args ds gs before hval0 hW _ _ hL _
  have hval : ∀ (j : Nat) t v, Tryd.f3.params[j]? = some t → args[j]? = some v → Value.okWide Tryd.prog W .any base t v := hval0
  have hW' := hW
  obtain ⟨p, q, hA0, hV, rfl, hfz, hnd⟩ := hW
  have hA : DataW.TrodAll enc Tryd.prog W 0 (fun _ => true) true Tryd.f3.params.toList args.toList ds p := hA0
  rw [Tryd.params3] at hA hval
  obtain ⟨us, ha, hlen, hsh⟩ := args_of (ts := [22]) (fun j t v h1 h2 => hval j t v (by simpa using h1) (by simpa using h2)) hA (by kernel_rfl)
  obtain ⟨d0, rfl⟩ : ∃ d0, ds = [d0] := by
    obtain ⟨v0, d0, -, hd, -⟩ := trodAll_one hA
    exact ⟨d0, hd⟩
  match us, hlen with
  | [u0], _ =>
    obtain ⟨bs, rfl⟩ := bs_of (hsh 0 22 rfl)
    have ha' : ARep (cx0 W) W.heap s0.L [bsV bs] args := by simpa using ha
    exact law_post (tb := 4) (by kernel_rfl) (by kernel_rfl) (by kernel_rfl) (show Tryd.prog.underlying 4 = some .bool by kernel_rfl) rfl (fun gs => by cases gs <;> rfl) hW' (fun g v h => by cases h) ha'
      (mlaw_den bs s0 NoX_s0)

theorem modelBytes_holds : Rows.ModelBytesSaid :=
  OpenClaim.holds_of_wide 3 Tryd.f3 rfl rfl rfl rfl rfl rfl rfl ⟨rfl, rfl, rfl, rfl, rfl⟩ rfl rfl rfl rfl rfl (by kernel_rfl) Tryd.func3 (by kernel_rfl)
    (of_decide_eq_true (by kernel_rfl)) (by unfold Func.isWrapper; first | (rw [if_pos (by decide +kernel)]; kernel_rfl) | (rw [if_neg (by decide +kernel)]; exact ⟨rfl, rfl⟩))
    (fun os started H enc _ => modelBytes_lifted os started H enc)

theorem modelBytes_card : Rows.ModelBytesCardSaid :=
  Claim7.holds_tied_plain_at .later [] [.data, .data, .data] true (true, "6eae1d39769fc99a7b13058748346dc8c729a3eeb42a4f29dab0b5e6802b549e") true
    modelBytes_holds (fun _ h => by cases h) (by kernel_rfl) (fun _ h => by cases h) modelBytes_row_tie rfl ⟨rfl, rfl⟩ (by kernel_rfl) rfl
    (fun f fn hf hfn => by
      obtain rfl : f = 3 := Option.some.inj ((show Tryd.prog.funcNamed Tryd.f3.name = some 3 by kernel_rfl).symm.trans hf) |>.symm
      obtain rfl : fn = Tryd.f3 := (Option.some.inj (Tryd.func3.symm.trans hfn)).symm
      exact ⟨by kernel_rfl, fun j t ht => by
        rw [Tryd.params3] at ht
        have h3 : t = 22 := by
          rcases j with _ | j
          · have := ht.symm; simp at this; subst this; decide
          · simp at ht
        rcases h3 with rfl
        · exact (show Tryd.prog.wantsStandIn 22 = false by kernel_rfl)⟩)
    (by kernel_rfl)
#print axioms modelBytes_card
end Go.Proofs.YtlhopiehnaabgaaDoor
