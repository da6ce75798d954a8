/-
  TallyTable holds. No condition beyond the given statement.
-/
import Derived.Test.YthoojnjcdllgdaaGreatDoorTzn
import Derived.Test.YthoojnjcdllgdaaGreatDoorLF
import Derived.Lay
import Derived.Test.YthoojnjcdllgdaaGreatDoorLC
import Derived.Test.YthoojnjcdllgdaaGreatDoorCards
import Derived.Test.YthoojnjcdllgdaaGreatDoorTie
import Derived.WalkKit
import Derived.ProofKit
import Derived.OpenShut
import Derived.LaidMore
import Derived.Carry
import Derived.Stop.Joined
import Derived.SevenTiedAt
set_option linter.all false
namespace Go.Proofs.YthoojnjcdllgdaaGreatDoor
open Go Rf Go.ChangeShapes Go.WideShapes Go.ChangeAt Go.RowKit
set_option maxRecDepth 100000

theorem gt1_of {W : World} (hL : laidMetH Tryz.prog Rows.tallyTableRow.laid W) : GRep gt1 (cx0 W) W.heap s0.L :=
  grep_cons (tab_of hL "internal/strconv.uint64pow10" .u64 Lib.pow10Tab (by kernel_rfl) (t := 162) (e := 136) (n := 20) (by kernel_rfl) (by kernel_rfl) (by kernel_rfl) (by kernel_rfl) (by kernel_rfl) (by kernel_rfl)) grep_nil
theorem lv : (leaves Tryz.prog Tryz.prog.depth 55).map (fun l => (l.length, l.getD 0 0, l.getD 5 0, l.getD 19 0, l.getD 21 0, l.getD 23 0, l.getD 37 0, l.getD 38 0, l.getD 39 0, l.getD 41 0, l.getD 42 0, l.getD 44 0)) = some (47, 43, 34, 44, 26, 45, 50, 2, 3, 3, 3, 51) := by kernel_rfl
theorem ui65 : Tryz.prog.underlying 43 = some (.int .i64) := by kernel_rfl
theorem ui66 : Tryz.prog.underlying 44 = some (.int .i64) := by kernel_rfl
theorem ui26 : Tryz.prog.underlying 26 = some (.int .i64) := by kernel_rfl
theorem ui72 : Tryz.prog.underlying 50 = some (.int .i64) := by kernel_rfl
theorem ui2 : Tryz.prog.underlying 2 = some (.int .i64) := by kernel_rfl
theorem ui3 : Tryz.prog.underlying 3 = some (.int .i64) := by kernel_rfl
theorem us56 : Tryz.prog.underlying 34 = some (.slice 5) := by kernel_rfl
theorem us67 : Tryz.prog.underlying 45 = some (.slice 2) := by kernel_rfl
theorem us73 : Tryz.prog.underlying 51 = some (.slice 47) := by kernel_rfl
theorem us22 : Tryz.prog.underlying 22 = some (.slice 55) := by kernel_rfl
theorem l5 : leaves Tryz.prog Tryz.prog.depth 5 = some [5] := by kernel_rfl
theorem l2 : leaves Tryz.prog Tryz.prog.depth 2 = some [2] := by kernel_rfl
theorem l22 : leaves Tryz.prog Tryz.prog.depth 22 = some [22] := by kernel_rfl
theorem l69 : (leaves Tryz.prog Tryz.prog.depth 47).map List.length = some 6 := by kernel_rfl
theorem a77 : agP Tryz.prog 55 = some true := by kernel_rfl
theorem a22 : agP Tryz.prog 22 = some false := by kernel_rfl
theorem a2 : agP Tryz.prog 2 = some false := by kernel_rfl
theorem ag_of (cs : List V) (h : cs.length = 47) : cs = (List.range 47).map (fun j => cs.getD j .bad) := by
  apply List.ext_getElem (by simp [h])
  intro i h1 h2
  simp [List.getD, h1]
theorem mv_of {x : V} (h : ASh Tryz.prog 55 x) : ∃ m : Mv, x = m.v ∧ m.wf := by
  obtain ⟨l, h1, h2, h3, h4⟩ := h
  have hv := lv
  rw [h1] at hv
  simp only [Option.map_some, Option.some.injEq, Prod.mk.injEq] at hv
  obtain ⟨hl, q0, q5, q19, q21, q23, q37, q38, q39, q41, q42, q44⟩ := hv
  obtain ⟨cs, rfl⟩ := h3.1 a77
  have hc : cs.length = 47 := by rw [← hl]; exact h2
  have at' : ∀ (j u : Nat), j < 47 → l.getD j 0 = u → LSh Tryz.prog u (cs.getD j .bad) := fun j u hj hu => by
    have : l[j]? = some u := by
      rw [List.getD, List.getElem?_eq_getElem (by omega)] at hu
      rw [List.getElem?_eq_getElem (by omega)]
      simpa using hu
    exact h4 j u this
  obtain ⟨ts, hts⟩ : ∃ ts, leaves Tryz.prog Tryz.prog.depth 47 = some ts := by
    have := l69
    cases h : leaves Tryz.prog Tryz.prog.depth 47 with
    | none => rw [h] at this; cases this
    | some ts => exact ⟨ts, rfl⟩
  have ht6 : ts.length = 6 := by
    have := l69
    rw [hts] at this
    simpa using this
  obtain ⟨k, e0, -⟩ := (at' 0 43 (by omega) q0).int ui65
  obtain ⟨bs, e5, -, -⟩ := (at' 5 34 (by omega) q5).slice us56 l5 (by decide)
  obtain ⟨rk, e19, -⟩ := (at' 19 44 (by omega) q19).int ui66
  obtain ⟨re, e21, -⟩ := (at' 21 26 (by omega) q21).int ui26
  obtain ⟨vs, e23, -, -⟩ := (at' 23 45 (by omega) q23).slice us67 l2 (by decide)
  obtain ⟨ok, e37, -⟩ := (at' 37 50 (by omega) q37).int ui72
  obtain ⟨tm, e38, -⟩ := (at' 38 2 (by omega) q38).int ui2
  obtain ⟨og, e39, w39⟩ := (at' 39 3 (by omega) q39).int ui3
  obtain ⟨tt, e41, w41⟩ := (at' 41 3 (by omega) q41).int ui3
  obtain ⟨kd, e42, w42⟩ := (at' 42 3 (by omega) q42).int ui3
  obtain ⟨rl, e44, -, -⟩ := (at' 44 51 (by omega) q44).slice us73 hts (by omega)
  rw [ht6] at e44
  refine ⟨⟨k, bs, rk, re, vs, ok, tm, og, tt, kd, rl, fun j => cs.getD j .bad⟩, ?_, w39, w41, w42⟩
  have e5 : cs.getD 5 .bad = .pu 1 bs .u := e5
  have e23 : cs.getD 23 .bad = .pu 1 vs .u := e23
  have hg := ag_of cs hc
  simp only [Mv.v, Mv.c, ← e0, ← e5, ← e19, ← e21, ← e23, ← e37, ← e38, ← e39, ← e41, ← e42, ← e44]
  exact congrArg V.ag hg
theorem mvs_of : ∀ (xs : List V), (∀ x ∈ xs, ASh Tryz.prog 55 x) → ∃ ms : List Mv, xs = ms.map Mv.v ∧ ∀ m ∈ ms, m.wf
  | [], _ => ⟨[], rfl, fun m hm => by cases hm⟩
  | x :: r, h => by
    obtain ⟨m, rfl, hm⟩ := mv_of (h x (List.mem_cons_self ..))
    obtain ⟨ms, rfl, hms⟩ := mvs_of r (fun y hy => h y (List.mem_cons_of_mem _ hy))
    exact ⟨m :: ms, rfl, fun x hx => by
      rcases List.mem_cons.1 hx with rfl | hx
      · exact hm
      · exact hms x hx⟩
theorem ms_of {x : V} (h : ASh Tryz.prog 22 x) : ∃ ms : List Mv, x = .pu 47 (ms.map Mv.v) .u ∧ ms.length ≤ maxLen ∧ (∀ m ∈ ms, Nm s0.L m.v) ∧ ∀ m ∈ ms, m.wf := by
  obtain ⟨ts, hts⟩ : ∃ ts, leaves Tryz.prog Tryz.prog.depth 55 = some ts := by
    have := lv
    cases h : leaves Tryz.prog Tryz.prog.depth 55 with
    | none => rw [h] at this; cases this
    | some ts => exact ⟨ts, rfl⟩
  have ht : ts.length = 47 := by
    have := lv
    rw [hts] at this
    simp only [Option.map_some, Option.some.injEq, Prod.mk.injEq] at this
    exact this.1
  obtain ⟨xs, hx, hxl, hxa⟩ := (h.leaf l22 (by rw [a22]; decide)).slice us22 hts (by omega)
  rw [ht] at hx
  obtain ⟨ms, rfl, hw⟩ := mvs_of xs hxa
  exact ⟨ms, hx, by simpa using hxl, fun m hm => (hxa m.v (List.mem_map_of_mem hm)).nm, hw⟩

theorem tallyTable_door (os : Os) (args : Array Value) : laidMetH Tryz.prog Rows.tallyTableRow.laid ((World.laidAll Tryz.prog os (Rows.tallyTableRow.laid.filter fun x => x.2.handleName?.isNone)).forCall (fun _ _ => 0) ⟨#[], args, []⟩).memory :=
  laidMetH_of_parts3 (fuel := 8) (laidMet_laidAll args (by kernel_rfl) (by kernel_rfl)) (by kernel_rfl) (by kernel_rfl)

theorem tallyTable_lifted (os : Os) (started : os.Started) (H : Type) (enc : TypeId × Value → H) :
    ReturnsInHanded {} Tryz.checked os 3 .any (fun w args => (Rows.tallyTableSpec.pre enc Tryz.prog Tryz.f3 [] false w args ∧ laidMetH Tryz.prog Rows.tallyTableRow.laid w) ∧ sizedMet enc Tryz.prog Tryz.f3 (OpenSpec.ofChange Rows.tallyTableSpec) false w args)
      (Rows.tallyTableSpec.post enc Tryz.prog Tryz.f3 false true false false) := by
  refine returnsInHanded_of_change_and (C := Tryz.checked) (X := fun w _ => laidMetH Tryz.prog Rows.tallyTableRow.laid w) (fun _ _ _ hh h => h.of_heap hh) own started (by kernel_rfl) Tryz.func3
    (ChangeSpec.witness_shaped (enc := enc) (C := Tryz.checked) (os := os) (X := fun w _ => laidMetH Tryz.prog Rows.tallyTableRow.laid w) false (World.laidAll Tryz.prog os (Rows.tallyTableRow.laid.filter fun x => x.2.handleName?.isNone)) #[.slice none 0 0, .int .i64 0] 8 (World.laidAll_os _ _ _) (World.shaped_of_ZipB (by kernel_rfl) (by kernel_rfl)) (by kernel_rfl) (by kernel_rfl) (by kernel_rfl) (tallyTable_door os _)) ?_
  intro W base args ds gs before hval0 hW _ _ hL _

  have hval : ∀ (j : Nat) t v, Tryz.f3.params[j]? = some t → args[j]? = some v → Value.okWide Tryz.prog W .any base t v := hval0
  have hW' := hW
  obtain ⟨p, q, hA0, hV, rfl, hfz, hnd⟩ := hW
  have hA : DataW.TrodAll enc Tryz.prog W 0 (fun _ => true) true Tryz.f3.params.toList args.toList ds p := hA0
  rw [Tryz.params3] at hA hval
  obtain ⟨us, ha, hlen, hsh⟩ := args_of (ts := [22, 2]) (fun j t v h1 h2 => hval j t v (by simpa using h1) (by simpa using h2)) hA (by kernel_rfl)
  obtain ⟨d0, d1, rfl⟩ : ∃ d0 d1, ds = [d0, d1] := by
    obtain ⟨v0, v1, d0, d1, p0, p1, -, hd, -⟩ := trodAll_two hA
    exact ⟨d0, d1, hd⟩
  match us, hlen with
  | [u0, u1], _ =>
    obtain ⟨ms, rfl, hml, hn, hw⟩ := ms_of (hsh 0 22 rfl)
    obtain ⟨len, rfl, -⟩ := ((hsh 1 2 rfl).leaf l2 (by rw [a2]; decide)).int ui2
    have ha' : ARep (cx0 W) W.heap s0.L [.pu 47 (ms.map Mv.v) .u, .i .i64 len] args := by simpa using ha
    exact law_post (tb := 4) (by kernel_rfl) (by kernel_rfl) (by kernel_rfl) (show Tryz.prog.underlying 4 = some .bool by kernel_rfl) rfl (fun gs => by cases gs <;> rfl) hW' (gt1_of hL) ha'
      (table_law ms len hn hw hml s0 (fun l o h => by simp [s0_get] at h))

theorem tallyTable_holds : Rows.TallyTableSaid :=
  OpenClaim.holds_of_wide 3 Tryz.f3 rfl rfl rfl rfl rfl rfl rfl ⟨rfl, rfl, rfl, rfl, rfl⟩ rfl rfl rfl rfl rfl (by kernel_rfl) Tryz.func3 (by kernel_rfl)
    (of_decide_eq_true (by kernel_rfl)) (by unfold Func.isWrapper; first | (rw [if_pos (by decide +kernel)]; kernel_rfl) | (rw [if_neg (by decide +kernel)]; exact ⟨rfl, rfl⟩))
    (fun os started H enc _ => tallyTable_lifted os started H enc)

theorem tallyTable_card : Rows.TallyTableCardSaid :=
  Claim7.holds_tied_plain_at .later [] [.data, .data, .data] true (true, "b02840955862b0e87e7b94a8c95591ecb8b86cd4b65b3ab1e10f2c8456a129fc") false
    tallyTable_holds (fun _ h => by cases h) (by kernel_rfl) (fun _ h => by cases h) tallyTable_row_tie rfl ⟨rfl, rfl⟩ (by kernel_rfl) rfl
    (fun f fn hf hfn => by
      obtain rfl : f = 3 := Option.some.inj ((show Tryz.prog.funcNamed Tryz.f3.name = some 3 by kernel_rfl).symm.trans hf) |>.symm
      obtain rfl : fn = Tryz.f3 := (Option.some.inj (Tryz.func3.symm.trans hfn)).symm
      exact ⟨by kernel_rfl, fun j t ht => by
        rw [Tryz.params3] at ht
        have h3 : t = 2 ∨ t = 22 := by
          rcases j with _ | _ | j
          · have := ht.symm; simp at this; subst this; decide
          · have := ht.symm; simp at this; subst this; decide
          · simp at ht
        rcases h3 with rfl | rfl
        · exact (show Tryz.prog.wantsStandIn 2 = false by kernel_rfl)
        · exact (show Tryz.prog.wantsStandIn 22 = false by kernel_rfl)⟩)
    (by kernel_rfl)
#print axioms tallyTable_card
end Go.Proofs.YthoojnjcdllgdaaGreatDoor
