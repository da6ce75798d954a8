/-
  CodeWords holds, for every operation: an operation below 1 or above 17 is run with its number open, each other one is run by itself. No condition beyond the given statement.
-/
import Derived.Test.YtbeoanbhnlahpaaDoorBase
import Derived.Test.YtbeoanbhnlahpaaDoorRfR
import Derived.Test.YtbeoanbhnlahpaaDoorCards
import Derived.Test.YtbeoanbhnlahpaaDoorTie
import Derived.WalkKit
import Derived.ProofKit
import Derived.OpenShut
import Derived.LaidMore
import Derived.Stop.Joined
import Derived.SevenTiedAt
set_option linter.all false
namespace Go.Proofs.YtbeoanbhnlahpaaDoor
open Go Rf Go.ChangeShapes Go.WideShapes Go.ChangeAt Go.RowKit
set_option maxRecDepth 100000

theorem words_neg (n : Nat) : (evFT tbB 1000 1000 3 [.i .i64 (Int.negSucc n)] s0).map (·.1) = some (.b true) := by kernel_rfl
theorem words_big (n : Nat) : (evFT tbB 1000 1000 3 [.i .i64 (Int.ofNat (n + 18))] s0).map (·.1) = some (.b true) := by kernel_rfl
theorem words_0 : (evFT tbB 1000 1000 3 [.i .i64 (Int.ofNat 0)] s0).map (·.1) = some (.b true) := by kernel_rfl
theorem words_1 : (evFT tbB 1000 1000 3 [.i .i64 (Int.ofNat 1)] s0).map (·.1) = some (.b true) := by kernel_rfl
theorem words_2 : (evFT tbB 1000 1000 3 [.i .i64 (Int.ofNat 2)] s0).map (·.1) = some (.b true) := by kernel_rfl
theorem words_3 : (evFT tbB 1000 1000 3 [.i .i64 (Int.ofNat 3)] s0).map (·.1) = some (.b true) := by kernel_rfl
theorem words_4 : (evFT tbB 1000 1000 3 [.i .i64 (Int.ofNat 4)] s0).map (·.1) = some (.b true) := by kernel_rfl
theorem words_5 : (evFT tbB 1000 1000 3 [.i .i64 (Int.ofNat 5)] s0).map (·.1) = some (.b true) := by kernel_rfl
theorem words_6 : (evFT tbB 1000 1000 3 [.i .i64 (Int.ofNat 6)] s0).map (·.1) = some (.b true) := by kernel_rfl
theorem words_7 : (evFT tbB 1000 1000 3 [.i .i64 (Int.ofNat 7)] s0).map (·.1) = some (.b true) := by kernel_rfl
theorem words_8 : (evFT tbB 1000 1000 3 [.i .i64 (Int.ofNat 8)] s0).map (·.1) = some (.b true) := by kernel_rfl
theorem words_9 : (evFT tbB 1000 1000 3 [.i .i64 (Int.ofNat 9)] s0).map (·.1) = some (.b true) := by kernel_rfl
theorem words_10 : (evFT tbB 1000 1000 3 [.i .i64 (Int.ofNat 10)] s0).map (·.1) = some (.b true) := by kernel_rfl
theorem words_11 : (evFT tbB 1000 1000 3 [.i .i64 (Int.ofNat 11)] s0).map (·.1) = some (.b true) := by kernel_rfl
theorem words_12 : (evFT tbB 1000 1000 3 [.i .i64 (Int.ofNat 12)] s0).map (·.1) = some (.b true) := by kernel_rfl
theorem words_13 : (evFT tbB 1000 1000 3 [.i .i64 (Int.ofNat 13)] s0).map (·.1) = some (.b true) := by kernel_rfl
theorem words_14 : (evFT tbB 1000 1000 3 [.i .i64 (Int.ofNat 14)] s0).map (·.1) = some (.b true) := by kernel_rfl
theorem words_15 : (evFT tbB 1000 1000 3 [.i .i64 (Int.ofNat 15)] s0).map (·.1) = some (.b true) := by kernel_rfl
theorem words_16 : (evFT tbB 1000 1000 3 [.i .i64 (Int.ofNat 16)] s0).map (·.1) = some (.b true) := by kernel_rfl
theorem words_17 : (evFT tbB 1000 1000 3 [.i .i64 (Int.ofNat 17)] s0).map (·.1) = some (.b true) := by kernel_rfl

theorem words_all (o : Int) : (evFT tbB 1000 1000 3 [.i .i64 o] s0).map (·.1) = some (.b true) := by
  cases o with
  | negSucc n => exact words_neg n
  | ofNat n =>
    rcases Nat.lt_or_ge n 18 with h | h
    · have hk : n = 0 ∨ n = 1 ∨ n = 2 ∨ n = 3 ∨ n = 4 ∨ n = 5 ∨ n = 6 ∨ n = 7 ∨ n = 8 ∨ n = 9 ∨ n = 10 ∨ n = 11 ∨ n = 12 ∨ n = 13 ∨ n = 14 ∨ n = 15 ∨ n = 16 ∨ n = 17 := by omega
      rcases hk with rfl | rfl | rfl | rfl | rfl | rfl | rfl | rfl | rfl | rfl | rfl | rfl | rfl | rfl | rfl | rfl | rfl | rfl
      · exact words_0
      · exact words_1
      · exact words_2
      · exact words_3
      · exact words_4
      · exact words_5
      · exact words_6
      · exact words_7
      · exact words_8
      · exact words_9
      · exact words_10
      · exact words_11
      · exact words_12
      · exact words_13
      · exact words_14
      · exact words_15
      · exact words_16
      · exact words_17
    · obtain ⟨m, rfl⟩ : ∃ m, n = m + 18 := ⟨n - 18, by omega⟩
      exact words_big m

theorem words_door (os : Os) (args : Array Value) : laidMetH Tryd.prog Rows.codeWordsRow.laid ((World.doorLaid Tryd.prog 400 os).forCall (fun _ _ => 0) ⟨#[], args, []⟩).memory :=
  laidMetH_of_parts3 (fuel := 8) (laidMet_of_run' 8 (by kernel_rfl) (by kernel_rfl)) (by kernel_rfl) (by kernel_rfl)

theorem words_lifted (os : Os) (started : os.Started) (H : Type) (enc : TypeId × Value → H) :
    ReturnsInHanded {} Tryd.checked os 3 .any (fun w args => (Rows.codeWordsSpec.pre enc Tryd.prog Tryd.f3 [] false w args ∧ laidMetH Tryd.prog Rows.codeWordsRow.laid w) ∧ sizedMet enc Tryd.prog Tryd.f3 (OpenSpec.ofChange Rows.codeWordsSpec) false w args)
      (Rows.codeWordsSpec.post enc Tryd.prog Tryd.f3 false true false false) := by
  refine returnsInHanded_of_change_and (C := Tryd.checked) (X := fun w _ => laidMetH Tryd.prog Rows.codeWordsRow.laid w) (fun _ _ _ hh h => h.of_heap hh) own started (by kernel_rfl) Tryd.func3
    (ChangeSpec.witness_shaped (enc := enc) (C := Tryd.checked) (os := os) (X := fun w _ => laidMetH Tryd.prog Rows.codeWordsRow.laid w) false (World.doorLaid Tryd.prog 400 os) #[.int .i64 0] 8 rfl (World.shaped_of_RefB (by kernel_rfl) (by kernel_rfl)) (by kernel_rfl) (by kernel_rfl) (by kernel_rfl) (words_door os _)) ?_
  intro W base args ds gs before hval0 hW _ _ hL _
  have hval : ∀ (j : Nat) t v, Tryd.f3.params[j]? = some t → args[j]? = some v → Value.okWide Tryd.prog W .any base t v := hval0
  have hW' := hW
  obtain ⟨p, q, hA0, hV, rfl, hfz, hnd⟩ := hW
  have hA : DataW.TrodAll enc Tryd.prog W 0 (fun _ => true) true Tryd.f3.params.toList args.toList ds p := hA0
  rw [Tryd.params3] at hA hval
  obtain ⟨v0, d0, he, rfl, h0⟩ := trodAll_one hA
  have he' : args = #[v0] := by first | exact he | (apply Array.ext'; simpa using he)
  subst he'
  obtain ⟨o, rfl, rfl, rfl, hwn⟩ := open_int Tryd.underlying3 (hval 0 3 v0 rfl rfl) h0
  obtain ⟨s', hD⟩ := den_of (words_all o)
  exact law_post (by kernel_rfl) (by kernel_rfl) (by kernel_rfl) Tryd.underlying4 rfl (fun gs => by cases gs <;> rfl) hW' (fun g v h => by cases h)
    ⟨rfl, fun j hj => by
      have : j = 0 := by simpa using hj
      subst this
      exact .i .i64 o⟩ hD

theorem words_holds : Rows.CodeWordsSaid :=
  OpenClaim.holds_of_wide 3 Tryd.f3 rfl rfl rfl rfl rfl rfl rfl ⟨rfl, rfl, rfl, rfl, rfl⟩ rfl rfl rfl rfl rfl (by kernel_rfl) Tryd.func3 (by kernel_rfl)
    (of_decide_eq_true (by kernel_rfl)) (by unfold Func.isWrapper; first | (rw [if_pos (by decide +kernel)]; kernel_rfl) | (rw [if_neg (by decide +kernel)]; exact ⟨rfl, rfl⟩))
    (fun os started H enc _ => words_lifted os started H enc)

theorem words_card : Rows.CodeWordsCardSaid :=
  Claim7.holds_tied_plain_at .later [] [.data, .data, .data] true (true, "4c2e2955a344c49b7c5330b61783e03873b5821aa29a849dc5a72daeb1dd2f0d") true
    words_holds (fun _ h => by cases h) (by kernel_rfl) (fun _ h => by cases h) codeWords_row_tie rfl ⟨rfl, rfl⟩ (by kernel_rfl) rfl
    (fun f fn hf hfn => by
      obtain rfl : f = 3 := Option.some.inj ((show Tryd.prog.funcNamed Tryd.f3.name = some 3 by kernel_rfl).symm.trans hf) |>.symm
      obtain rfl : fn = Tryd.f3 := (Option.some.inj (Tryd.func3.symm.trans hfn)).symm
      exact ⟨by kernel_rfl, fun j t ht => by
        rw [Tryd.params3] at ht
        have h3 : t = 3 := by
          rcases j with _ | j
          · simpa using ht.symm
          · simp at ht
        subst h3
        exact (show Tryd.prog.wantsStandIn 3 = false by kernel_rfl)⟩)
    (by kernel_rfl)
#print axioms words_card
end Go.Proofs.YtbeoanbhnlahpaaDoor
