/-
  ModelCopies holds. No condition beyond the given statement.
-/
import Derived.Test.YtklgkdehnaecnaaDoorLaw
import Derived.Test.YtklgkdehnaecnaaDoorRfR
import Derived.Test.YtklgkdehnaecnaaDoorRfV
import Derived.Test.YtklgkdehnaecnaaDoorCards
import Derived.Test.YtklgkdehnaecnaaDoorTie
import Derived.WalkKit
import Derived.ProofKit
import Derived.OpenShut
import Derived.LaidMore
import Derived.Carry
import Derived.Stop.Joined
import Derived.SevenTiedAt
set_option linter.all false
namespace Go.Proofs.YtklgkdehnaecnaaDoor
open Go Rf Go.ChangeShapes Go.WideShapes Go.ChangeAt Go.RowKit
set_option maxRecDepth 100000

theorem lvP : leaves Tryd.prog Tryd.prog.depth 37 = some [3, 35] := by kernel_rfl
theorem uA0 : Tryd.prog.underlying 3 = some (.int .i64) := by kernel_rfl
theorem uA1 : Tryd.prog.underlying 35 = some (.slice 40) := by kernel_rfl
theorem lvB : leaves Tryd.prog Tryd.prog.depth 40 = some [40] := by kernel_rfl
theorem uB : Tryd.prog.underlying 40 = some (.slice 43) := by kernel_rfl
theorem lvC : leaves Tryd.prog Tryd.prog.depth 43 = some [41, 2] := by kernel_rfl
theorem uO : Tryd.prog.underlying 41 = some (.int .i64) := by kernel_rfl
theorem uN : Tryd.prog.underlying 2 = some (.int .i64) := by kernel_rfl
theorem aB : agP Tryd.prog 40 = some false := by kernel_rfl
theorem aC : agP Tryd.prog 43 = some true := by kernel_rfl
theorem lvN : leaves Tryd.prog Tryd.prog.depth 2 = some [2] := by kernel_rfl
theorem aN : agP Tryd.prog 2 = some false := by kernel_rfl
theorem lvR : leaves Tryd.prog Tryd.prog.depth 39 = some [3, 35, 26, 2] := by kernel_rfl
theorem aR : agP Tryd.prog 39 = some true := by kernel_rfl
theorem uV : Tryd.prog.underlying 26 = some (.slice 2) := by kernel_rfl
theorem lvE : leaves Tryd.prog Tryd.prog.depth 47 = some [2, 3, 2, 3, 3, 2] := by kernel_rfl
theorem aE : agP Tryd.prog 47 = some true := by kernel_rfl
theorem lvM : leaves Tryd.prog Tryd.prog.depth 25 = some [22, 23] := by kernel_rfl
theorem aM : agP Tryd.prog 25 = some true := by kernel_rfl
theorem uM0 : Tryd.prog.underlying 22 = some (.slice 39) := by kernel_rfl
theorem uM1 : Tryd.prog.underlying 23 = some (.slice 47) := by kernel_rfl
theorem lvS : leaves Tryd.prog Tryd.prog.depth 28 = some [26, 2, 2] := by kernel_rfl
theorem aS : agP Tryd.prog 28 = some true := by kernel_rfl

theorem map_of {α : Type} {f : α → V} {t : TypeId} {p : α → Prop} (h1 : ∀ x, ASh Tryd.prog t x → ∃ a, x = f a ∧ p a) : ∀ (xs : List V), (∀ x ∈ xs, ASh Tryd.prog t x) → ∃ ks : List α, xs = ks.map f ∧ ∀ k ∈ ks, p k
  | [], _ => ⟨[], rfl, fun k hk => by simp at hk⟩
  | x :: r, h => by
    obtain ⟨m, rfl, hm⟩ := h1 x (h x (List.mem_cons_self ..))
    obtain ⟨ms, rfl, hms⟩ := map_of h1 r (fun y hy => h y (List.mem_cons_of_mem _ hy))
    exact ⟨m :: ms, rfl, fun k hk => by
      rcases List.mem_cons.1 hk with rfl | hk
      · exact hm
      · exact hms k hk⟩
theorem ins_of (x : V) (h : ASh Tryd.prog 43 x) : ∃ i : Int × Int, x = insV i ∧ True := by
  obtain ⟨l, h1, h2, h3, h4⟩ := h
  rw [lvC] at h1; cases h1
  obtain ⟨cs, rfl⟩ := h3.1 aC
  have hc : cs.length = 2 := h2
  obtain ⟨a, e0, -⟩ := (h4 0 41 rfl).int uO
  obtain ⟨b, e1, -⟩ := (h4 1 2 rfl).int uN
  match cs, hc with
  | [c0, c1], _ =>
    have e0 : c0 = .i .i64 a := e0
    have e1 : c1 = .i .i64 b := e1
    subst e0 e1
    exact ⟨(a, b), rfl, trivial⟩
theorem kd_of (x : V) (h : ASh Tryd.prog 40 x) : ∃ k : Kd, x = kV k ∧ k.length ≤ maxLen := by
  obtain ⟨xs, hx, hxl, hxa⟩ := (h.leaf lvB (by rw [aB]; decide)).slice uB lvC (by decide)
  obtain ⟨k, rfl, -⟩ := map_of ins_of xs hxa
  exact ⟨k, hx, by simpa using hxl⟩
theorem int_of (x : V) (h : ASh Tryd.prog 2 x) : ∃ i : Int, x = iV i ∧ True := by
  obtain ⟨i, hi, -⟩ := (h.leaf lvN (by rw [aN]; decide)).int uN
  exact ⟨i, hi, trivial⟩
theorem ks_of {x : V} (h : LSh Tryd.prog 35 x) : ∃ ks : List Kd, x = ksV ks ∧ ks.length ≤ maxLen ∧ ∀ k ∈ ks, k.length ≤ maxLen := by
  obtain ⟨xs, e1, hxl, hxa⟩ := h.slice uA1 lvB (by decide)
  obtain ⟨ks, rfl, hks⟩ := map_of kd_of xs hxa
  exact ⟨ks, e1, by simpa using hxl, hks⟩
theorem vs_of {x : V} (h : LSh Tryd.prog 26 x) : ∃ vs : List Int, x = vsV vs ∧ vs.length ≤ maxLen := by
  obtain ⟨xs, e1, hxl, hxa⟩ := h.slice uV lvN (by decide)
  obtain ⟨vs, rfl, -⟩ := map_of int_of xs hxa
  exact ⟨vs, e1, by simpa using hxl⟩
theorem pr_of (x : V) (h : ASh Tryd.prog 39 x) : ∃ p : Pr, x = prV p ∧ okP p := by
  obtain ⟨l, h1, h2, h3, h4⟩ := h
  rw [lvR] at h1; cases h1
  obtain ⟨cs, rfl⟩ := h3.1 aR
  have hc : cs.length = 4 := h2
  obtain ⟨a, e0, -⟩ := (h4 0 3 rfl).int uA0
  obtain ⟨ks, e1, hk1, hk2⟩ := ks_of (h4 1 35 rfl)
  obtain ⟨vs, e2, hv⟩ := vs_of (h4 2 26 rfl)
  obtain ⟨b, e3, -⟩ := (h4 3 2 rfl).int uN
  match cs, hc with
  | [c0, c1, c2, c3], _ =>
    have e0 : c0 = .i .i64 a := e0
    have e1 : c1 = ksV ks := e1
    have e2 : c2 = vsV vs := e2
    have e3 : c3 = .i .i64 b := e3
    subst e0 e1 e2 e3
    exact ⟨((a, ks), vs, b), rfl, hk1, hk2, hv⟩
theorem ev_of (x : V) (h : ASh Tryd.prog 47 x) : ∃ e : Ev, x = evV e ∧ True := by
  obtain ⟨l, h1, h2, h3, h4⟩ := h
  rw [lvE] at h1; cases h1
  obtain ⟨cs, rfl⟩ := h3.1 aE
  have hc : cs.length = 6 := h2
  obtain ⟨a, e0, -⟩ := (h4 0 2 rfl).int uN
  obtain ⟨b, e1, -⟩ := (h4 1 3 rfl).int uA0
  obtain ⟨c, e2, -⟩ := (h4 2 2 rfl).int uN
  obtain ⟨d, e3, -⟩ := (h4 3 3 rfl).int uA0
  obtain ⟨f, e4, -⟩ := (h4 4 3 rfl).int uA0
  obtain ⟨g, e5, -⟩ := (h4 5 2 rfl).int uN
  match cs, hc with
  | [c0, c1, c2, c3, c4, c5], _ =>
    have e0 : c0 = .i .i64 a := e0
    have e1 : c1 = .i .i64 b := e1
    have e2 : c2 = .i .i64 c := e2
    have e3 : c3 = .i .i64 d := e3
    have e4 : c4 = .i .i64 f := e4
    have e5 : c5 = .i .i64 g := e5
    subst e0 e1 e2 e3 e4 e5
    exact ⟨(a, b, c, d, f, g), rfl, trivial⟩
theorem m_of {x : V} (h : ASh Tryd.prog 25 x) : ∃ (ps : List Pr) (fs : List Ev), x = mV ps fs ∧ okAll ps fs := by
  obtain ⟨l, h1, h2, h3, h4⟩ := h
  rw [lvM] at h1; cases h1
  obtain ⟨cs, rfl⟩ := h3.1 aM
  have hc : cs.length = 2 := h2
  obtain ⟨xs, e0, hxl, hxa⟩ := (h4 0 22 rfl).slice uM0 lvR (by decide)
  obtain ⟨ps, rfl, hps⟩ := map_of pr_of xs hxa
  obtain ⟨ys, e1, hyl, hya⟩ := (h4 1 23 rfl).slice uM1 lvE (by decide)
  obtain ⟨fs, rfl, -⟩ := map_of ev_of ys hya
  match cs, hc with
  | [c0, c1], _ =>
    have e0 : c0 = psV ps := e0
    have e1 : c1 = fsV fs := e1
    subst e0 e1
    exact ⟨ps, fs, rfl, by simpa using hxl, by simpa using hyl, hps⟩
theorem st_of {x : V} (h : ASh Tryd.prog 28 x) : ∃ (vs : List Int) (a b : Int), x = stV vs a b := by
  obtain ⟨l, h1, h2, h3, h4⟩ := h
  rw [lvS] at h1; cases h1
  obtain ⟨cs, rfl⟩ := h3.1 aS
  have hc : cs.length = 3 := h2
  obtain ⟨vs, e0, -⟩ := vs_of (h4 0 26 rfl)
  obtain ⟨a, e1, -⟩ := (h4 1 2 rfl).int uN
  obtain ⟨b, e2, -⟩ := (h4 2 2 rfl).int uN
  match cs, hc with
  | [c0, c1, c2], _ =>
    have e0 : c0 = vsV vs := e0
    have e1 : c1 = .i .i64 a := e1
    have e2 : c2 = .i .i64 b := e2
    subst e0 e1 e2
    exact ⟨vs, a, b, rfl⟩

theorem copies_den (ps ps' : List Pr) (fs fs' : List Ev) (xs ys : List Int) (a b c d : Int) (h1 : okAll ps fs) (h2 : okAll ps' fs') : PDen gt0 Tryd.prog 3 [mV ps fs, mV ps' fs', stV xs a b, stV ys c d] (.b true) := by
  by_cases hm : muchM ps fs = true ∨ muchM ps' fs' = true ∨ 20 < xs.length ∨ 20 < ys.length
  · exact law_much ps ps' fs fs' xs ys a b c d h1 h2 hm
  · have m1 : muchM ps fs = false := by cases h : muchM ps fs <;> simp_all
    have m2 : muchM ps' fs' = false := by cases h : muchM ps' fs' <;> simp_all
    exact law_go ps ps' fs fs' xs ys a b c d (of_muchM m1) (of_muchM m2) m1 m2 (by omega) (by omega)

theorem modelCopies_door (os : Os) (args : Array Value) : laidMetH Tryd.prog Rows.modelCopiesRow.laid ((World.doorLaid Tryd.prog 400 os).forCall (fun _ _ => 0) ⟨#[], args, []⟩).memory :=
  laidMetH_of_parts3 (fuel := 8) (laidMet_of_run' 8 (by kernel_rfl) (by kernel_rfl)) (by kernel_rfl) (by kernel_rfl)

theorem modelCopies_lifted (os : Os) (started : os.Started) (H : Type) (enc : TypeId × Value → H) :
    ReturnsInHanded {} Tryd.checked os 3 .any (fun w args => (Rows.modelCopiesSpec.pre enc Tryd.prog Tryd.f3 [] false w args ∧ laidMetH Tryd.prog Rows.modelCopiesRow.laid w) ∧ sizedMet enc Tryd.prog Tryd.f3 (OpenSpec.ofChange Rows.modelCopiesSpec) false w args)
      (Rows.modelCopiesSpec.post enc Tryd.prog Tryd.f3 false true false false) := by
  refine returnsInHanded_of_change_and (C := Tryd.checked) (X := fun w _ => laidMetH Tryd.prog Rows.modelCopiesRow.laid w) (fun _ _ _ hh h => h.of_heap hh) own started (by kernel_rfl) Tryd.func3
    (ChangeSpec.witness_shaped (enc := enc) (C := Tryd.checked) (os := os) (X := fun w _ => laidMetH Tryd.prog Rows.modelCopiesRow.laid w) false (World.doorLaid Tryd.prog 400 os) #[.agg #[.slice none 0 0, .slice none 0 0], .agg #[.slice none 0 0, .slice none 0 0], .agg #[.slice none 0 0, .int .i64 0, .int .i64 0], .agg #[.slice none 0 0, .int .i64 0, .int .i64 0]] 8 rfl (World.shaped_of_RefB (by kernel_rfl) (by kernel_rfl)) (by kernel_rfl) (by kernel_rfl) (by kernel_rfl) (modelCopies_door os _)) ?_
  intro W base args ds gs before hval0 hW _ _ hL _
  have hval : ∀ (j : Nat) t v, Tryd.f3.params[j]? = some t → args[j]? = some v → Value.okWide Tryd.prog W .any base t v := hval0
  have hW' := hW
  obtain ⟨p, q, hA0, hV, rfl, hfz, hnd⟩ := hW
  have hA : DataW.TrodAll enc Tryd.prog W 0 (fun _ => true) true Tryd.f3.params.toList args.toList ds p := hA0
  rw [Tryd.params3] at hA hval
  obtain ⟨us, ha, hlen, hsh⟩ := args_of (ts := [25, 25, 28, 28]) (fun j t v h1 h2 => hval j t v (by simpa using h1) (by simpa using h2)) hA (by kernel_rfl)
  obtain ⟨d0, d1, d2, d3, rfl⟩ : ∃ d0 d1 d2 d3, ds = [d0, d1, d2, d3] := by
    obtain ⟨v0, v1, v2, v3, d0, d1, d2, d3, p0, p1, p2, p3, -, hd, -⟩ := trodAll_four hA
    exact ⟨d0, d1, d2, d3, hd⟩
  match us, hlen with
  | [u0, u1, u2, u3], _ =>
    obtain ⟨ps, fs, rfl, h1⟩ := m_of (hsh 0 25 rfl)
    obtain ⟨ps', fs', rfl, h2⟩ := m_of (hsh 1 25 rfl)
    obtain ⟨xs, a, b, rfl⟩ := st_of (hsh 2 28 rfl)
    obtain ⟨ys, c, d, rfl⟩ := st_of (hsh 3 28 rfl)
    have ha' : ARep (cx0 W) W.heap s0.L [mV ps fs, mV ps' fs', stV xs a b, stV ys c d] args := by simpa using ha
    exact law_post (tb := 4) (by kernel_rfl) (by kernel_rfl) (by kernel_rfl) (show Tryd.prog.underlying 4 = some .bool by kernel_rfl) rfl (fun gs => by cases gs <;> rfl) hW' (fun g v h => by cases h) ha'
      (copies_den ps ps' fs fs' xs ys a b c d h1 h2 s0)

theorem modelCopies_holds : Rows.ModelCopiesSaid :=
  OpenClaim.holds_of_wide 3 Tryd.f3 rfl rfl rfl rfl rfl rfl rfl ⟨rfl, rfl, rfl, rfl, rfl⟩ rfl rfl rfl rfl rfl (by kernel_rfl) Tryd.func3 (by kernel_rfl)
    (of_decide_eq_true (by kernel_rfl)) (by unfold Func.isWrapper; first | (rw [if_pos (by decide +kernel)]; kernel_rfl) | (rw [if_neg (by decide +kernel)]; exact ⟨rfl, rfl⟩))
    (fun os started H enc _ => modelCopies_lifted os started H enc)

theorem modelCopies_card : Rows.ModelCopiesCardSaid :=
  Claim7.holds_tied_plain_at .later [] [.data, .data, .data] true (true, "4e6564df65b62b4aff7d90d35aab9e72248300e6ae85534ff7500ddc29165cfb") true
    modelCopies_holds (fun _ h => by cases h) (by kernel_rfl) (fun _ h => by cases h) modelCopies_row_tie rfl ⟨rfl, rfl⟩ (by kernel_rfl) rfl
    (fun f fn hf hfn => by
      obtain rfl : f = 3 := Option.some.inj ((show Tryd.prog.funcNamed Tryd.f3.name = some 3 by kernel_rfl).symm.trans hf) |>.symm
      obtain rfl : fn = Tryd.f3 := (Option.some.inj (Tryd.func3.symm.trans hfn)).symm
      exact ⟨by kernel_rfl, fun j t ht => by
        rw [Tryd.params3] at ht
        have h3 : t = 25 ∨ t = 28 := by
          rcases j with _ | _ | _ | _ | j
          · have := ht.symm; simp at this; subst this; decide
          · have := ht.symm; simp at this; subst this; decide
          · have := ht.symm; simp at this; subst this; decide
          · have := ht.symm; simp at this; subst this; decide
          · simp at ht
        rcases h3 with rfl | rfl
        · exact (show Tryd.prog.wantsStandIn 25 = false by kernel_rfl)
        · exact (show Tryd.prog.wantsStandIn 28 = false by kernel_rfl)⟩)
    (by kernel_rfl)
#print axioms modelCopies_card
end Go.Proofs.YtklgkdehnaecnaaDoor
