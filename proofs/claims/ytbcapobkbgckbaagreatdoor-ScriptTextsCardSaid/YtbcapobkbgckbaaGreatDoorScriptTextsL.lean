/-
  ScriptTexts: the arguments read, the law lifted.
-/
import Derived.Test.YtbcapobkbgckbaaGreatDoorSlt
import Derived.Test.YtbcapobkbgckbaaGreatDoorLD
import Derived.Test.YtbcapobkbgckbaaGreatDoorLF
import Derived.Lay
import Derived.WalkKit
import Derived.ProofKit
import Derived.OpenShut
import Derived.LaidMore
import Derived.Carry
import Derived.Stop.Joined
import Derived.SevenTiedAt
import Derived.KernelRfl
set_option linter.all false
namespace Go.Proofs.YtbcapobkbgckbaaGreatDoor
open Go Rf Go.ChangeShapes Go.WideShapes Go.ChangeAt Go.RowKit
set_option maxRecDepth 100000
set_option maxHeartbeats 4000000

theorem star_es : "*" ++ "errors.errorString" = "*errors.errorString" := by decide
theorem row_es (u : TypeId) (h : Tryz.prog.typeName? 3 u = some "*errors.errorString") : u = 329 :=
  typeName_ptr_named (nm := "errors.errorString") (by rw [star_es]; kernel_rfl) (by kernel_rfl) (by decide) u (by rw [star_es]; exact h)
theorem gt1_of {W : World} (hL : laidMetH Tryz.prog Rows.scriptTextsRow.laid W) : GRep gt1 (cx0 W) W.heap s0.L :=
  grep_cons (tab_of hL "internal/strconv.uint64pow10" .u64 Lib.pow10Tab (by kernel_rfl) (t := 252) (e := 88) (n := 20) (by kernel_rfl) (by kernel_rfl) (by kernel_rfl) (by kernel_rfl) (by kernel_rfl) (by kernel_rfl))
    (grep_cons (sent_of hL "strconv.ErrSyntax" "*errors.errorString" (d := .ptr (.agg [.lit (.string [105, 110, 118, 97, 108, 105, 100, 32, 115, 121, 110, 116, 97, 120])])) (by kernel_rfl) (by kernel_rfl) (t := 52) (by kernel_rfl) Tryz.underlying52 row_es)
      (grep_cons (sent_of hL "strconv.ErrRange" "*errors.errorString" (d := .ptr (.agg [.lit (.string [118, 97, 108, 117, 101, 32, 111, 117, 116, 32, 111, 102, 32, 114, 97, 110, 103, 101])])) (by kernel_rfl) (by kernel_rfl) (t := 52) (by kernel_rfl) Tryz.underlying52 row_es)
        (grep_cons (tab_of hL "math/bits.deBruijn64tab" .u8 dbT (by kernel_rfl) (t := 424) (e := 5) (n := 64) (by kernel_rfl) (by kernel_rfl) (by kernel_rfl) (by kernel_rfl) (by kernel_rfl) (by kernel_rfl)) grep_nil)))
noncomputable def hWd (P : Program) (os : Os) (g ty : Nat) : World :=
  match (P.cutTypes.find? (·.1 == "internal/reflectlite.rtype")).map (·.2), (World.holding P os ⟨#[], #[], []⟩).heap[g]? with
  | some u, some (.cells _ el fr) => { World.holding P os ⟨#[], #[], []⟩ with heap := (World.holding P os ⟨#[], #[], []⟩).heap.setIfInBounds g (.cells #[.iface u (.agg #[typeHandle P ty])] el fr) }
  | _, _ => World.holding P os ⟨#[], #[], []⟩
theorem hWd_os (P : Program) (os : Os) (g ty : Nat) : (hWd P os g ty).os = os := by unfold hWd; split <;> rfl
theorem met_lay {P : Program} {w0 : World} {laid : List (String × DataW Unit)} (args : Array Value) (hf : w0.layFits P laid [] = true) (hi : w0.layIfaces P laid (w0.layVars P laid) = true) :
    laidMet P laid ((w0.layVars P laid).forCall (fun _ _ => 0) ⟨#[], args, []⟩).memory := by
  have e1 : (laid.filter fun x => (laid.map (·.1)).contains x.1) = laid := List.filter_eq_self.2 fun x hx => List.contains_iff_mem.2 (List.mem_map.2 ⟨x, hx, rfl⟩)
  have e2 : (laid.filter fun x => !(laid.map (·.1)).contains x.1) = [] := List.filter_eq_nil_iff.2 fun x hx => by rw [List.contains_iff_mem.2 (List.mem_map.2 ⟨x, hx, rfl⟩)]; simp
  have h : laidMet P laid (w0.layVars P laid) := laidMet_layVars (w0 := w0) (laid.map (·.1)) [] (by rw [e1]) (by rw [e1]; exact hf) (by rw [e1]; exact hi) (by rw [e2]; exact LaidIn.none)
  exact h.of_heap (by simp [World.memory, World.forCall, Input.heap])
theorem lvL : leaves Tryz.prog Tryz.prog.depth 22 = some [22] := by kernel_rfl
theorem uL : Tryz.prog.underlying 22 = some (.slice 26) := by kernel_rfl
theorem aL : agP Tryz.prog 22 = some false := by kernel_rfl
theorem lvE : leaves Tryz.prog Tryz.prog.depth 26 = some [23, 3, 2, 24] := by kernel_rfl
theorem aE : agP Tryz.prog 26 = some true := by kernel_rfl
theorem uK : Tryz.prog.underlying 23 = some (.int .i64) := by kernel_rfl
theorem uI : Tryz.prog.underlying 3 = some (.int .i64) := by kernel_rfl
theorem uN : Tryz.prog.underlying 2 = some (.int .i64) := by kernel_rfl
theorem uB : Tryz.prog.underlying 24 = some (.slice 5) := by kernel_rfl
theorem lv5 : leaves Tryz.prog Tryz.prog.depth 5 = some [5] := by kernel_rfl
theorem u5 : Tryz.prog.underlying 5 = some (.int .u8) := by kernel_rfl
theorem a5 : agP Tryz.prog 5 = some false := by kernel_rfl
theorem wf_i64 {n : Int} (h : (Lit.int .i64 n).wf = true) : i64 n := by
  have : -9223372036854775808 ≤ n ∧ n ≤ 9223372036854775807 := by simpa [Lit.wf, IntKind.min, IntKind.max, IntKind.bits, IntKind.signed] using h
  exact this
theorem byte_of (x : V) (h : ASh Tryz.prog 5 x) : ∃ b : UInt8, x = bV b ∧ True := by
  obtain ⟨n, rfl, hw⟩ := (h.leaf lv5 (by rw [a5]; decide)).int u5
  have hn : 0 ≤ n ∧ n ≤ 255 := by simpa [Lit.wf, IntKind.min, IntKind.max, IntKind.bits, IntKind.signed] using hw
  refine ⟨UInt8.ofNat n.toNat, ?_, trivial⟩
  rw [bV, UInt8.toNat_ofNat']
  congr 1
  omega
theorem map_of {α : Type} {f : α → V} {t : TypeId} {p : α → Prop} (h1 : ∀ x, ASh Tryz.prog t x → ∃ a, x = f a ∧ p a) : ∀ (xs : List V), (∀ x ∈ xs, ASh Tryz.prog t x) → ∃ ks : List α, xs = ks.map f ∧ ∀ k ∈ ks, p k
  | [], _ => ⟨[], rfl, fun k hk => by simp at hk⟩
  | x :: r, h => by
    obtain ⟨m, rfl, hm⟩ := h1 x (h x (List.mem_cons_self ..))
    obtain ⟨ms, rfl, hms⟩ := map_of h1 r (fun y hy => h y (List.mem_cons_of_mem _ hy))
    exact ⟨m :: ms, rfl, fun k hk => by
      rcases List.mem_cons.1 hk with rfl | hk
      · exact hm
      · exact hms k hk⟩
theorem bs_of {x : V} (h : LSh Tryz.prog 24 x) : ∃ bs : List UInt8, x = bsV bs := by
  obtain ⟨xs, e1, -, hxa⟩ := h.slice uB lv5 (by decide)
  obtain ⟨bs, rfl, -⟩ := map_of byte_of xs hxa
  exact ⟨bs, e1⟩
theorem ey_of (x : V) (h : ASh Tryz.prog 26 x) : ∃ e : Ey, x = eyV e ∧ EyOk e := by
  obtain ⟨l, h1, h2, h3, h4⟩ := h
  rw [lvE] at h1; cases h1
  obtain ⟨cs, rfl⟩ := h3.1 aE
  have hc : cs.length = 4 := h2
  obtain ⟨k, e0, w0⟩ := (h4 0 23 rfl).int uK
  obtain ⟨a, e1, w1⟩ := (h4 1 3 rfl).int uI
  obtain ⟨n, e2, w2⟩ := (h4 2 2 rfl).int uN
  obtain ⟨b, e3⟩ := bs_of (h4 3 24 rfl)
  match cs, hc with
  | [c0, c1, c2, c3], _ =>
    have e0 : c0 = .i .i64 k := e0
    have e1 : c1 = .i .i64 a := e1
    have e2 : c2 = .i .i64 n := e2
    have e3 : c3 = bsV b := e3
    subst e0 e1 e2 e3
    exact ⟨⟨k, a, n, b⟩, rfl, wf_i64 w0, wf_i64 w1, wf_i64 w2⟩
theorem sl_of {x : V} (h : ASh Tryz.prog 22 x) : ∃ w : List Ey, x = slS w ∧ ∀ e ∈ w, EyOk e := by
  obtain ⟨xs, e1, -, hxa⟩ := (h.leaf lvL (by rw [aL]; decide)).slice uL lvE (by decide)
  obtain ⟨w, rfl, hw⟩ := map_of ey_of xs hxa
  exact ⟨w, e1, hw⟩

theorem scriptTexts_door (os : Os) (args : Array Value) : laidMetH Tryz.prog Rows.scriptTextsRow.laid (((hWd Tryz.prog os 4 52).layVars Tryz.prog (Rows.scriptTextsRow.laid.filter fun x => x.2.handleName?.isNone)).forCall (fun _ _ => 0) ⟨#[], args, []⟩).memory :=
  laidMetH_of_parts3 (fuel := 8) (met_lay args (by as_aux_lemma => kernel_rfl) (by as_aux_lemma => kernel_rfl)) (by as_aux_lemma => kernel_rfl) (by as_aux_lemma => kernel_rfl)

theorem scriptTexts_lifted (os : Os) (started : os.Started) (H : Type) (enc : TypeId × Value → H) :
    ReturnsInHanded {} Tryz.checked os 3 .any (fun w args => (Rows.scriptTextsSpec.pre enc Tryz.prog Tryz.f3 [] false w args ∧ laidMetH Tryz.prog Rows.scriptTextsRow.laid w) ∧ sizedMet enc Tryz.prog Tryz.f3 (OpenSpec.ofChange Rows.scriptTextsSpec) false w args)
      (Rows.scriptTextsSpec.post enc Tryz.prog Tryz.f3 false true false false) := by
  refine returnsInHanded_of_change_and (C := Tryz.checked) (X := fun w _ => laidMetH Tryz.prog Rows.scriptTextsRow.laid w) (fun _ _ _ hh h => h.of_heap hh) own started (by as_aux_lemma => kernel_rfl) Tryz.func3
    (ChangeSpec.witness_shaped (enc := enc) (C := Tryz.checked) (os := os) (X := fun w _ => laidMetH Tryz.prog Rows.scriptTextsRow.laid w) false ((hWd Tryz.prog os 4 52).layVars Tryz.prog (Rows.scriptTextsRow.laid.filter fun x => x.2.handleName?.isNone)) #[.slice none 0 0] 8 ((World.layVars_os _ _ _).trans (hWd_os _ _ _ _)) (World.shaped_of_ZipB (by as_aux_lemma => kernel_rfl) (by as_aux_lemma => kernel_rfl)) (by as_aux_lemma => kernel_rfl) (by as_aux_lemma => kernel_rfl) (by as_aux_lemma => kernel_rfl) (scriptTexts_door os _)) ?_
  intro W base args ds gs before hval0 hW _ _ hL _
  have hval : ∀ (j : Nat) t v, Tryz.f3.params[j]? = some t → args[j]? = some v → Value.okWide Tryz.prog W .any base t v := hval0
  have hW' := hW
  obtain ⟨p, q, hA0, hV, rfl, hfz, hnd⟩ := hW
  have hA : DataW.TrodAll enc Tryz.prog W 0 (fun _ => true) true Tryz.f3.params.toList args.toList ds p := hA0
  rw [Tryz.params3] at hA hval
  obtain ⟨us, ha, hlen, hsh⟩ := args_of (ts := [22]) (fun j t v h1 h2 => hval j t v (by simpa using h1) (by simpa using h2)) hA (by kernel_rfl)
  obtain ⟨d0, rfl⟩ : ∃ d0, ds = [d0] := by
    obtain ⟨v0, d0, -, hd, -⟩ := trodAll_one hA
    exact ⟨d0, hd⟩
  match us, hlen with
  | [u0], _ =>
    obtain ⟨w, rfl, hw⟩ := sl_of (hsh 0 22 rfl)
    have ha' : ARep (cx0 W) W.heap s0.L [slS w] args := by simpa using ha
    exact law_post (tb := 4) (by as_aux_lemma => kernel_rfl) (by as_aux_lemma => kernel_rfl) (by as_aux_lemma => kernel_rfl) (show Tryz.prog.underlying 4 = some .bool by as_aux_lemma => kernel_rfl) rfl (fun gs => by cases gs <;> rfl) hW' (gt1_of hL) ha'
      (tlaw_den w hw s0 (fun l o h => by simp [s0_get] at h))

end Go.Proofs.YtbcapobkbgckbaaGreatDoor
