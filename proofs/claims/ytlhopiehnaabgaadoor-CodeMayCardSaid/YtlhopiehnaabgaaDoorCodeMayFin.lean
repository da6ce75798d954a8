/-
  CodeMay holds. No condition beyond the given statement.
-/
import Derived.Test.YtlhopiehnaabgaaDoorBlaw
import Derived.Test.YtlhopiehnaabgaaDoorLE
import Derived.Lay
import Derived.Test.YtlhopiehnaabgaaDoorLC
import Derived.Test.YtlhopiehnaabgaaDoorCards
import Derived.Test.YtlhopiehnaabgaaDoorTie
import Derived.WalkKit
import Derived.ProofKit
import Derived.OpenShut
import Derived.LaidMore
import Derived.Carry
import Derived.Stop.Joined
import Derived.SevenTiedAt
set_option linter.all false
namespace Go.Proofs.YtlhopiehnaabgaaDoor
open Go Rf Go.ChangeShapes Go.WideShapes Go.ChangeAt Go.RowKit
set_option maxRecDepth 100000

theorem lvS : leaves Tryd.prog Tryd.prog.depth 9 = some [9] := by kernel_rfl
theorem uS : Tryd.prog.underlying 9 = some .string := by kernel_rfl
theorem aS : agP Tryd.prog 9 = some false := by kernel_rfl
theorem star_es : "*" ++ "errors.errorString" = "*errors.errorString" := by decide
theorem row_es (u : TypeId) (h : Tryd.prog.typeName? 3 u = some "*errors.errorString") : u = 185 :=
  typeName_ptr_named (nm := "errors.errorString") (by rw [star_es]; kernel_rfl) (by kernel_rfl) (by decide) u (by rw [star_es]; exact h)
theorem gt1_of {W : World} (hL : laidMetH Tryd.prog Rows.codeMayRow.laid W) : GRep gt1 (cx0 W) W.heap s0.L :=
  grep_cons (tab_of hL "internal/strconv.uint64pow10" .u64 Lib.pow10Tab (by kernel_rfl) (t := 179) (e := 78) (n := 20) (by kernel_rfl) (by kernel_rfl) (by kernel_rfl) (by kernel_rfl) (by kernel_rfl) (by kernel_rfl))
    (grep_cons (sent_of hL "strconv.ErrSyntax" "*errors.errorString" (d := .ptr (.agg [.lit (.string [105, 110, 118, 97, 108, 105, 100, 32, 115, 121, 110, 116, 97, 120])])) (by kernel_rfl) (by kernel_rfl) (t := 69) (by kernel_rfl) Tryd.underlying69 row_es)
      (grep_cons (sent_of hL "strconv.ErrRange" "*errors.errorString" (d := .ptr (.agg [.lit (.string [118, 97, 108, 117, 101, 32, 111, 117, 116, 32, 111, 102, 32, 114, 97, 110, 103, 101])])) (by kernel_rfl) (by kernel_rfl) (t := 69) (by kernel_rfl) Tryd.underlying69 row_es) grep_nil))
theorem lvB : leaves Tryd.prog Tryd.prog.depth 22 = some [22] := by kernel_rfl
theorem uB : Tryd.prog.underlying 22 = some (.slice 5) := by kernel_rfl
theorem lv5 : leaves Tryd.prog Tryd.prog.depth 5 = some [5] := by kernel_rfl
theorem u5 : Tryd.prog.underlying 5 = some (.int .u8) := by kernel_rfl
theorem aB : agP Tryd.prog 22 = some false := by kernel_rfl
theorem a5 : agP Tryd.prog 5 = some false := by kernel_rfl
theorem byte_of (x : V) (h : ASh Tryd.prog 5 x) : ∃ b : UInt8, x = bV b ∧ True := by
  obtain ⟨n, rfl, hw⟩ := (h.leaf lv5 (by rw [a5]; decide)).int u5
  have hn : 0 ≤ n ∧ n ≤ 255 := by simpa [Lit.wf, IntKind.min, IntKind.max, IntKind.bits, IntKind.signed] using hw
  refine ⟨UInt8.ofNat n.toNat, ?_, trivial⟩
  rw [bV, UInt8.toNat_ofNat']
  congr 1
  omega
theorem map_of {α : Type} {f : α → V} {t : TypeId} {p : α → Prop} (h1 : ∀ x, ASh Tryd.prog t x → ∃ a, x = f a ∧ p a) : ∀ (xs : List V), (∀ x ∈ xs, ASh Tryd.prog t x) → ∃ ks : List α, xs = ks.map f ∧ ∀ k ∈ ks, p k
  | [], _ => ⟨[], rfl, fun k hk => by simp at hk⟩
  | x :: r, h => by
    obtain ⟨m, rfl, hm⟩ := h1 x (h x (List.mem_cons_self ..))
    obtain ⟨ms, rfl, hms⟩ := map_of h1 r (fun y hy => h y (List.mem_cons_of_mem _ hy))
    exact ⟨m :: ms, rfl, fun k hk => by
      rcases List.mem_cons.1 hk with rfl | hk
      · exact hm
      · exact hms k hk⟩
theorem bs_of {x : V} (h : ASh Tryd.prog 22 x) : ∃ bs : List UInt8, x = bsV bs := by
  obtain ⟨xs, e1, -, hxa⟩ := (h.leaf lvB (by rw [aB]; decide)).slice uB lv5 (by decide)
  obtain ⟨bs, rfl, -⟩ := map_of byte_of xs hxa
  exact ⟨bs, e1⟩
theorem lvP : leaves Tryd.prog Tryd.prog.depth 38 = some [3, 36] := by kernel_rfl
theorem aP : agP Tryd.prog 38 = some true := by kernel_rfl
theorem u3 : Tryd.prog.underlying 3 = some (.int .i64) := by kernel_rfl
theorem u36 : Tryd.prog.underlying 36 = some (.slice 59) := by kernel_rfl
theorem lvK : leaves Tryd.prog Tryd.prog.depth 59 = some [59] := by kernel_rfl
theorem uK : Tryd.prog.underlying 59 = some (.slice 58) := by kernel_rfl
theorem aK : agP Tryd.prog 59 = some false := by kernel_rfl
theorem lvI : leaves Tryd.prog Tryd.prog.depth 58 = some [56, 2] := by kernel_rfl
theorem aI : agP Tryd.prog 58 = some true := by kernel_rfl
theorem uO : Tryd.prog.underlying 56 = some (.int .i64) := by kernel_rfl
theorem uN : Tryd.prog.underlying 2 = some (.int .i64) := by kernel_rfl
theorem wf_i64 {n : Int} (h : (Lit.int .i64 n).wf = true) : i64 n := by
  have : -9223372036854775808 ≤ n ∧ n ≤ 9223372036854775807 := by simpa [Lit.wf, IntKind.min, IntKind.max, IntKind.bits, IntKind.signed] using h
  exact this
theorem ins_of (x : V) (h : ASh Tryd.prog 58 x) : ∃ i : Int × Int, x = insV i ∧ i64 i.2 := by
  obtain ⟨l, h1, h2, h3, h4⟩ := h
  rw [lvI] at h1; cases h1
  obtain ⟨cs, rfl⟩ := h3.1 aI
  have hc : cs.length = 2 := h2
  obtain ⟨a, e0, -⟩ := (h4 0 56 rfl).int uO
  obtain ⟨b, e1, hw⟩ := (h4 1 2 rfl).int uN
  match cs, hc with
  | [c0, c1], _ =>
    have e0 : c0 = .i .i64 a := e0
    have e1 : c1 = .i .i64 b := e1
    subst e0 e1
    exact ⟨(a, b), rfl, wf_i64 hw⟩
theorem kd_of (x : V) (h : ASh Tryd.prog 59 x) : ∃ k : Kd, x = kV k ∧ (k.length ≤ maxLen ∧ ∀ i ∈ k, i64 i.2) := by
  obtain ⟨xs, hx, hxl, hxa⟩ := (h.leaf lvK (by rw [aK]; decide)).slice uK lvI (by decide)
  obtain ⟨k, rfl, hk⟩ := map_of ins_of xs hxa
  exact ⟨k, hx, by simpa using hxl, hk⟩
theorem ks_of {x : V} (h : LSh Tryd.prog 36 x) : ∃ ks : List Kd, x = ksV ks ∧ ks.length ≤ maxLen ∧ ∀ k ∈ ks, (k.length ≤ maxLen ∧ ∀ i ∈ k, i64 i.2) := by
  obtain ⟨xs, e1, hxl, hxa⟩ := h.slice u36 lvK (by decide)
  obtain ⟨ks, rfl, hks⟩ := map_of kd_of xs hxa
  exact ⟨ks, e1, by simpa using hxl, hks⟩
theorem pg_of {x : V} (h : ASh Tryd.prog 38 x) : ∃ (v : Int) (ks : List Kd), x = pgV v ks ∧ i64 v ∧ ks.length ≤ maxLen ∧ ∀ k ∈ ks, (k.length ≤ maxLen ∧ ∀ i ∈ k, i64 i.2) := by
  obtain ⟨l, h1, h2, h3, h4⟩ := h
  rw [lvP] at h1; cases h1
  obtain ⟨cs, rfl⟩ := h3.1 aP
  have hc : cs.length = 2 := h2
  obtain ⟨a, e0, hw⟩ := (h4 0 3 rfl).int u3
  obtain ⟨ks, e1, hk1, hk2⟩ := ks_of (h4 1 36 rfl)
  match cs, hc with
  | [c0, c1], _ =>
    have e0 : c0 = .i .i64 a := e0
    have e1 : c1 = ksV ks := e1
    subst e0 e1
    exact ⟨a, ks, rfl, wf_i64 hw, hk1, hk2⟩

theorem codeMay_door (os : Os) (args : Array Value) : laidMetH Tryd.prog Rows.codeMayRow.laid ((World.laidAll Tryd.prog os (Rows.codeMayRow.laid.filter fun x => x.2.handleName?.isNone)).forCall (fun _ _ => 0) ⟨#[], args, []⟩).memory :=
  laidMetH_of_parts3 (fuel := 8) (laidMet_laidAll args (by kernel_rfl) (by kernel_rfl)) (by kernel_rfl) (by kernel_rfl)

theorem codeMay_lifted (os : Os) (started : os.Started) (H : Type) (enc : TypeId × Value → H) :
    ReturnsInHanded {} Tryd.checked os 5 .any (fun w args => (Rows.codeMaySpec.pre enc Tryd.prog Tryd.f5 [] false w args ∧ laidMetH Tryd.prog Rows.codeMayRow.laid w) ∧ sizedMet enc Tryd.prog Tryd.f5 (OpenSpec.ofChange Rows.codeMaySpec) false w args)
      (Rows.codeMaySpec.post enc Tryd.prog Tryd.f5 false true false false) := by
  refine returnsInHanded_of_change_and (C := Tryd.checked) (X := fun w _ => laidMetH Tryd.prog Rows.codeMayRow.laid w) (fun _ _ _ hh h => h.of_heap hh) own started (by kernel_rfl) Tryd.func5
    (ChangeSpec.witness_shaped (enc := enc) (C := Tryd.checked) (os := os) (X := fun w _ => laidMetH Tryd.prog Rows.codeMayRow.laid w) false (World.laidAll Tryd.prog os (Rows.codeMayRow.laid.filter fun x => x.2.handleName?.isNone)) #[.agg #[.int .i64 0, .slice none 0 0], .slice none 0 0] 8 (World.laidAll_os _ _ _) (World.shaped_of_ZipB (by kernel_rfl) (by kernel_rfl)) (by kernel_rfl) (by kernel_rfl) (by kernel_rfl) (codeMay_door os _)) ?_
  intro W base args ds gs before hval0 hW _ _ hL _
  have hval : ∀ (j : Nat) t v, Tryd.f5.params[j]? = some t → args[j]? = some v → Value.okWide Tryd.prog W .any base t v := hval0
  have hW' := hW
  obtain ⟨p, q, hA0, hV, rfl, hfz, hnd⟩ := hW
  have hA : DataW.TrodAll enc Tryd.prog W 0 (fun _ => true) true Tryd.f5.params.toList args.toList ds p := hA0
  rw [Tryd.params5] at hA hval
  obtain ⟨us, ha, hlen, hsh⟩ := args_of (ts := [38, 22]) (fun j t v h1 h2 => hval j t v (by simpa using h1) (by simpa using h2)) hA (by kernel_rfl)
  obtain ⟨d0, d1, rfl⟩ : ∃ d0 d1, ds = [d0, d1] := by
    obtain ⟨v0, v1, d0, d1, p0, p1, -, hd, -⟩ := trodAll_two hA
    exact ⟨d0, d1, hd⟩
  match us, hlen with
  | [u0, u1], _ =>
    obtain ⟨v, ks, rfl, h1, h2, h3⟩ := pg_of (hsh 0 38 rfl)
    obtain ⟨bh, rfl⟩ := bs_of (hsh 1 22 rfl)
    have ha' : ARep (cx0 W) W.heap s0.L [pgV v ks, bsV bh] args := by simpa using ha
    exact law_post (tb := 4) (by kernel_rfl) (by kernel_rfl) (by kernel_rfl) (show Tryd.prog.underlying 4 = some .bool by kernel_rfl) rfl (fun gs => by cases gs <;> rfl) hW' (gt1_of hL) ha'
      (blaw_den v ks bh h2 h1 (fun k hk => (h3 k hk).2) s0 (fun l o h => by simp [s0_get] at h))

theorem codeMay_holds : Rows.CodeMaySaid :=
  OpenClaim.holds_of_wide 5 Tryd.f5 rfl rfl rfl rfl rfl rfl rfl ⟨rfl, rfl, rfl, rfl, rfl⟩ rfl rfl rfl rfl rfl (by kernel_rfl) Tryd.func5 (by kernel_rfl)
    (of_decide_eq_true (by kernel_rfl)) (by unfold Func.isWrapper; first | (rw [if_pos (by decide +kernel)]; kernel_rfl) | (rw [if_neg (by decide +kernel)]; exact ⟨rfl, rfl⟩))
    (fun os started H enc _ => codeMay_lifted os started H enc)

theorem codeMay_card : Rows.CodeMayCardSaid :=
  Claim7.holds_tied_plain_at .later [] [.data, .data, .data, .data, .sentinel, .sentinel, .pinned] true (true, "6eae1d39769fc99a7b13058748346dc8c729a3eeb42a4f29dab0b5e6802b549e") true
    codeMay_holds (fun _ h => by cases h) (by kernel_rfl) (fun _ h => by cases h) codeMay_row_tie rfl ⟨rfl, rfl⟩ (by kernel_rfl) rfl
    (fun f fn hf hfn => by
      obtain rfl : f = 5 := Option.some.inj ((show Tryd.prog.funcNamed Tryd.f5.name = some 5 by kernel_rfl).symm.trans hf) |>.symm
      obtain rfl : fn = Tryd.f5 := (Option.some.inj (Tryd.func5.symm.trans hfn)).symm
      exact ⟨by kernel_rfl, fun j t ht => by
        rw [Tryd.params5] at ht
        have h3 : t = 22 ∨ t = 38 := by
          rcases j with _ | _ | j
          · have := ht.symm; simp at this; subst this; decide
          · have := ht.symm; simp at this; subst this; decide
          · simp at ht
        rcases h3 with rfl | rfl
        · exact (show Tryd.prog.wantsStandIn 22 = false by kernel_rfl)
        · exact (show Tryd.prog.wantsStandIn 38 = false by kernel_rfl)⟩)
    (by kernel_rfl)
#print axioms codeMay_card
end Go.Proofs.YtlhopiehnaabgaaDoor
