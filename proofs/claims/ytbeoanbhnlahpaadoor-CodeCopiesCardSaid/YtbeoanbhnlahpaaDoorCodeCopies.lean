/-
  CodeCopies holds. No condition beyond the given statement.
-/
import Derived.Test.YtbeoanbhnlahpaaDoorCopies
import Derived.Test.YtbeoanbhnlahpaaDoorRfR
import Derived.Test.YtbeoanbhnlahpaaDoorRfV
import Derived.Test.YtbeoanbhnlahpaaDoorCards
import Derived.Test.YtbeoanbhnlahpaaDoorTie
import Derived.WalkKit
import Derived.ProofKit
import Derived.OpenShut
import Derived.LaidMore
import Derived.Carry
import Derived.Stop.Joined
import Derived.SevenTiedAt
set_option linter.all false
namespace Go.Proofs.YtbeoanbhnlahpaaDoor
open Go Rf Go.ChangeShapes Go.WideShapes Go.ChangeAt Go.RowKit
set_option maxRecDepth 100000

theorem lvP : leaves Tryd.prog Tryd.prog.depth 32 = some [3, 30] := by kernel_rfl
theorem uA0 : Tryd.prog.underlying 3 = some (.int .i64) := by kernel_rfl
theorem uA1 : Tryd.prog.underlying 30 = some (.slice 27) := by kernel_rfl
theorem lvB : leaves Tryd.prog Tryd.prog.depth 27 = some [27] := by kernel_rfl
theorem uB : Tryd.prog.underlying 27 = some (.slice 29) := by kernel_rfl
theorem lvC : leaves Tryd.prog Tryd.prog.depth 29 = some [23, 2] := by kernel_rfl
theorem uO : Tryd.prog.underlying 23 = some (.int .i64) := by kernel_rfl
theorem uN : Tryd.prog.underlying 2 = some (.int .i64) := by kernel_rfl
theorem aP : agP Tryd.prog 32 = some true := by kernel_rfl
theorem aB : agP Tryd.prog 27 = some false := by kernel_rfl
theorem aC : agP Tryd.prog 29 = some true := by kernel_rfl
theorem lv3 : leaves Tryd.prog Tryd.prog.depth 3 = some [3] := by kernel_rfl
theorem a3 : agP Tryd.prog 3 = some false := by kernel_rfl
theorem u3 : Tryd.prog.underlying 3 = some (.int .i64) := by kernel_rfl

theorem ins_of {x : V} (h : ASh Tryd.prog 29 x) : ∃ i : Int × Int, x = insV i := by
  obtain ⟨l, h1, h2, h3, h4⟩ := h
  rw [lvC] at h1; cases h1
  obtain ⟨cs, rfl⟩ := h3.1 aC
  have hc : cs.length = 2 := h2
  obtain ⟨a, e0, -⟩ := (h4 0 23 rfl).int uO
  obtain ⟨b, e1, -⟩ := (h4 1 2 rfl).int uN
  match cs, hc with
  | [c0, c1], _ =>
    have e0 : c0 = .i .i64 a := e0
    have e1 : c1 = .i .i64 b := e1
    subst e0 e1
    exact ⟨(a, b), rfl⟩
theorem inss_of : ∀ (xs : List V), (∀ x ∈ xs, ASh Tryd.prog 29 x) → ∃ k : Kd, xs = k.map insV
  | [], _ => ⟨[], rfl⟩
  | x :: r, h => by
    obtain ⟨m, rfl⟩ := ins_of (h x (List.mem_cons_self ..))
    obtain ⟨ms, rfl⟩ := inss_of r (fun y hy => h y (List.mem_cons_of_mem _ hy))
    exact ⟨m :: ms, rfl⟩
theorem kd_of {x : V} (h : ASh Tryd.prog 27 x) : ∃ k : Kd, x = kV k ∧ k.length ≤ maxLen := by
  obtain ⟨xs, hx, hxl, hxa⟩ := (h.leaf lvB (by rw [aB]; decide)).slice uB lvC (by decide)
  obtain ⟨k, rfl⟩ := inss_of xs hxa
  exact ⟨k, hx, by simpa using hxl⟩
theorem kds_of : ∀ (xs : List V), (∀ x ∈ xs, ASh Tryd.prog 27 x) → ∃ ks : List Kd, xs = ks.map kV ∧ ∀ k ∈ ks, k.length ≤ maxLen
  | [], _ => ⟨[], rfl, fun k hk => by simp at hk⟩
  | x :: r, h => by
    obtain ⟨m, rfl, hm⟩ := kd_of (h x (List.mem_cons_self ..))
    obtain ⟨ms, rfl, hms⟩ := kds_of r (fun y hy => h y (List.mem_cons_of_mem _ hy))
    exact ⟨m :: ms, rfl, fun k hk => by
      rcases List.mem_cons.1 hk with rfl | hk
      · exact hm
      · exact hms k hk⟩
theorem pg_of {x : V} (h : ASh Tryd.prog 32 x) : ∃ (v : Int) (ks : List Kd), x = pgV v ks ∧ ks.length ≤ maxLen := by
  obtain ⟨l, h1, h2, h3, h4⟩ := h
  rw [lvP] at h1; cases h1
  obtain ⟨cs, rfl⟩ := h3.1 aP
  have hc : cs.length = 2 := h2
  obtain ⟨v, e0, -⟩ := (h4 0 3 rfl).int uA0
  obtain ⟨xs, e1, hxl, hxa⟩ := (h4 1 30 rfl).slice uA1 lvB (by decide)
  obtain ⟨ks, rfl, -⟩ := kds_of xs hxa
  match cs, hc with
  | [c0, c1], _ =>
    have e0 : c0 = .i .i64 v := e0
    have e1 : c1 = ksV ks := e1
    subst e0 e1
    exact ⟨v, ks, rfl, by simpa using hxl⟩

theorem copies_den (v w : Int) (ks js : List Kd) (kd at' : Int) (h1 : ks.length ≤ maxLen) (h2 : js.length ≤ maxLen) : PDen gt0 Tryd.prog 6 [pgV v ks, pgV w js, .i .i64 kd, .i .i64 at'] (.b true) := by
  by_cases hm : much ks = true ∨ much js = true
  · exact law_much v w ks js kd at' h1 h2 hm
  · obtain ⟨hl, hk⟩ := of_much (ks := ks) (by cases h : much ks <;> simp_all)
    obtain ⟨hl', hk'⟩ := of_much (ks := js) (by cases h : much js <;> simp_all)
    by_cases h0 : ks = []
    · subst h0; exact law_nil v w js kd at' hl' hk'
    · by_cases hex : ∃ (p : Nat) (kp : Kd) (q : Nat), kd = p ∧ ks[p]? = some kp ∧ at' = q ∧ q < kp.length
      · obtain ⟨p, kp, q, rfl, hp, rfl, hq⟩ := hex
        exact law_pick v w ks js p q kp kp[q] hl hk hl' hk' hp (by simp [hq])
      · exact law_out v w ks js kd at' hl hk hl' hk' h0 hex

theorem copies_door (os : Os) (args : Array Value) : laidMetH Tryd.prog Rows.codeCopiesRow.laid ((World.doorLaid Tryd.prog 400 os).forCall (fun _ _ => 0) ⟨#[], args, []⟩).memory :=
  laidMetH_of_parts3 (fuel := 8) (laidMet_of_run' 8 (by kernel_rfl) (by kernel_rfl)) (by kernel_rfl) (by kernel_rfl)

theorem copies_lifted (os : Os) (started : os.Started) (H : Type) (enc : TypeId × Value → H) :
    ReturnsInHanded {} Tryd.checked os 6 .any (fun w args => (Rows.codeCopiesSpec.pre enc Tryd.prog Tryd.f6 [] false w args ∧ laidMetH Tryd.prog Rows.codeCopiesRow.laid w) ∧ sizedMet enc Tryd.prog Tryd.f6 (OpenSpec.ofChange Rows.codeCopiesSpec) false w args)
      (Rows.codeCopiesSpec.post enc Tryd.prog Tryd.f6 false true false false) := by
  refine returnsInHanded_of_change_and (C := Tryd.checked) (X := fun w _ => laidMetH Tryd.prog Rows.codeCopiesRow.laid w) (fun _ _ _ hh h => h.of_heap hh) own started (by kernel_rfl) Tryd.func6
    (ChangeSpec.witness_shaped (enc := enc) (C := Tryd.checked) (os := os) (X := fun w _ => laidMetH Tryd.prog Rows.codeCopiesRow.laid w) false (World.doorLaid Tryd.prog 400 os) #[.agg #[.int .i64 0, .slice none 0 0], .agg #[.int .i64 0, .slice none 0 0], .int .i64 0, .int .i64 0] 8 rfl (World.shaped_of_RefB (by kernel_rfl) (by kernel_rfl)) (by kernel_rfl) (by kernel_rfl) (by kernel_rfl) (copies_door os _)) ?_
  intro W base args ds gs before hval0 hW _ _ hL _
  have hval : ∀ (j : Nat) t v, Tryd.f6.params[j]? = some t → args[j]? = some v → Value.okWide Tryd.prog W .any base t v := hval0
  have hW' := hW
  obtain ⟨p, q, hA0, hV, rfl, hfz, hnd⟩ := hW
  have hA : DataW.TrodAll enc Tryd.prog W 0 (fun _ => true) true Tryd.f6.params.toList args.toList ds p := hA0
  rw [Tryd.params6] at hA hval
  obtain ⟨us, ha, hlen, hsh⟩ := args_of (ts := [32, 32, 3, 3]) (fun j t v h1 h2 => hval j t v (by simpa using h1) (by simpa using h2)) hA (by kernel_rfl)
  obtain ⟨d0, d1, d2, d3, rfl⟩ : ∃ d0 d1 d2 d3, ds = [d0, d1, d2, d3] := by
    obtain ⟨v0, v1, v2, v3, d0, d1, d2, d3, p0, p1, p2, p3, -, hd, -⟩ := trodAll_four hA
    exact ⟨d0, d1, d2, d3, hd⟩
  match us, hlen with
  | [x, y, z, u], _ =>
    obtain ⟨v, ks, rfl, h1⟩ := pg_of (hsh 0 32 rfl)
    obtain ⟨w, js, rfl, h2⟩ := pg_of (hsh 1 32 rfl)
    obtain ⟨kd, hz, -⟩ := ((hsh 2 3 rfl).leaf lv3 (by rw [a3]; decide)).int u3
    obtain ⟨at', hu, -⟩ := ((hsh 3 3 rfl).leaf lv3 (by rw [a3]; decide)).int u3
    have hz : z = .i .i64 kd := hz
    have hu : u = .i .i64 at' := hu
    subst hz hu
    have ha' : ARep (cx0 W) W.heap s0.L [pgV v ks, pgV w js, .i .i64 kd, .i .i64 at'] args := by simpa using ha
    exact law_post (by kernel_rfl) (by kernel_rfl) (by kernel_rfl) Tryd.underlying4 rfl (fun gs => by cases gs <;> rfl) hW' (fun g v h => by cases h) ha'
      (copies_den v w ks js kd at' h1 h2 s0)

theorem copies_holds : Rows.CodeCopiesSaid :=
  OpenClaim.holds_of_wide 6 Tryd.f6 rfl rfl rfl rfl rfl rfl rfl ⟨rfl, rfl, rfl, rfl, rfl⟩ rfl rfl rfl rfl rfl (by kernel_rfl) Tryd.func6 (by kernel_rfl)
    (of_decide_eq_true (by kernel_rfl)) (by unfold Func.isWrapper; first | (rw [if_pos (by decide +kernel)]; kernel_rfl) | (rw [if_neg (by decide +kernel)]; exact ⟨rfl, rfl⟩))
    (fun os started H enc _ => copies_lifted os started H enc)

theorem copies_card : Rows.CodeCopiesCardSaid :=
  Claim7.holds_tied_plain_at .later [] [.data, .data, .data] true (true, "4c2e2955a344c49b7c5330b61783e03873b5821aa29a849dc5a72daeb1dd2f0d") true
    copies_holds (fun _ h => by cases h) (by kernel_rfl) (fun _ h => by cases h) codeCopies_row_tie rfl ⟨rfl, rfl⟩ (by kernel_rfl) rfl
    (fun f fn hf hfn => by
      obtain rfl : f = 6 := Option.some.inj ((show Tryd.prog.funcNamed Tryd.f6.name = some 6 by kernel_rfl).symm.trans hf) |>.symm
      obtain rfl : fn = Tryd.f6 := (Option.some.inj (Tryd.func6.symm.trans hfn)).symm
      exact ⟨by kernel_rfl, fun j t ht => by
        rw [Tryd.params6] at ht
        have h3 : t = 3 ∨ t = 32 := by
          rcases j with _ | _ | _ | _ | j
          · exact .inr (by simpa using ht.symm)
          · exact .inr (by simpa using ht.symm)
          · exact .inl (by simpa using ht.symm)
          · exact .inl (by simpa using ht.symm)
          · simp at ht
        rcases h3 with rfl | rfl
        · exact (show Tryd.prog.wantsStandIn 3 = false by kernel_rfl)
        · exact (show Tryd.prog.wantsStandIn 32 = false by kernel_rfl)⟩)
    (by kernel_rfl)
#print axioms copies_card
end Go.Proofs.YtbeoanbhnlahpaaDoor
