/-
  A map's keys that are pairs, as they come. No statement stands here.
-/
import Derived.Test.YthoojnjcdllgdaaProg
import Derived.Shelf.SlIterI.Nil
import Derived.DeepKeys4
import Derived.KernelRfl
set_option linter.all false
namespace Go.Proofs.Ythoojnjcdllgdaa
open Go Go.RowKit Go.Maps Go.Sort Go.Shelf Go.Proofs
set_option maxRecDepth 100000
set_option maxHeartbeats 4000000

abbrev encP (x : Int × Int) : Value := .agg #[.int .i64 x.1, .int .i64 x.2]
theorem lawP : WideMaps.KeyLaw Try.prog 103 := deep_law_laid (by kernel_rfl) (m := 3) (by omega) (by decide +kernel) (by kernel_rfl) (by kernel_rfl)
theorem keyedP : Keyed Try.prog 103 := .of_law lawP
def kP (x : Int × Int) : Lit := .string (keyBytes [.int .i64 x.1, .int .i64 x.2])
theorem ktP : Try.prog.keyType 103 = true := by kernel_rfl
theorem coP : Try.prog.cellsOf 103 = 2 := by kernel_rfl
theorem co3 : Try.prog.cellsOf 3 = 1 := by kernel_rfl
def kI : Value → Option Lit
  | .int q n => if q = .i64 ∧ (Lit.int .i64 n).wf = true then some (.int .i64 n) else none
  | _ => none
theorem kl_I (d : Nat) (a : Value) : Try.prog.keyLits (d + 1) 3 [a] = (kI a).map fun l => [l] := by
  unfold Program.keyLits
  rw [Try.underlying3]
  cases a <;> simp only [kI, Option.map_none]
  rename_i q n
  by_cases h : q = .i64 ∧ (Lit.int .i64 n).wf = true
  · rw [if_pos h, if_pos h]; rfl
  · rw [if_neg h, if_neg h]; rfl
theorem kl_P (d : Nat) (a b : Value) : Try.prog.keyLits (d + 2) 103 [a, b] = (kI a).bind fun x => (kI b).map fun y => [x, y] := by
  unfold Program.keyLits
  rw [Try.underlying103]
  simp only [coP, List.length_cons, List.length_nil]
  rw [if_pos (by refine ⟨trivial, ?_⟩; decide +kernel)]
  simp only [List.mapM_cons, List.mapM_nil, co3, List.drop_zero, List.drop_succ_cons, List.take_succ_cons, List.take_zero, kl_I]
  cases kI a <;> cases kI b <;> rfl
theorem sz1 : ∃ n, Try.prog.types.size + 1 = n + 2 := by
  have h : 0 < Try.prog.types.size := by decide +kernel
  exact ⟨Try.prog.types.size - 1, by omega⟩
theorem keyOf_ag (a b : Value) : keyOf Try.prog 103 (.agg #[a, b]) = ((kI a).bind fun x => (kI b).map fun y => [x, y]).map fun ls => Lit.string (keyBytes ls) := by
  obtain ⟨n, hn⟩ := sz1
  unfold keyOf
  rw [Try.underlying103]
  have hf : Value.formed Try.prog 103 (.agg #[a, b]) = true := by
    simp only [Value.formed, Try.underlying103, coP]; rfl
  simp only [hf, ktP, Bool.and_self, if_true, hn]
  rw [show (Value.agg #[a, b]).cells.toList = [a, b] from rfl, kl_P]
theorem keyOf_P (x : Int × Int) (h1 : (Lit.int .i64 x.1).wf = true) (h2 : (Lit.int .i64 x.2).wf = true) : keyOf Try.prog 103 (encP x) = some (kP x) := by
  rw [keyOf_ag]
  simp only [kI, h1, h2, and_self, if_true, Option.bind_some, Option.map_some]; rfl
theorem kI_inv {a : Value} {l : Lit} (h : kI a = some l) : ∃ n, a = .int .i64 n ∧ l = .int .i64 n ∧ (Lit.int .i64 n).wf = true := by
  cases a <;> simp only [kI, reduceCtorEq] at h
  rename_i q n
  split at h
  · rename_i hq
    cases h
    obtain ⟨rfl, hw⟩ := hq
    exact ⟨n, rfl, rfl, hw⟩
  · cases h
theorem inv_P {key : Value} {kl : Lit} (h : keyOf Try.prog 103 key = some kl) : ∃ x : Int × Int, key = encP x ∧ kl = kP x ∧ (Lit.int .i64 x.1).wf = true ∧ (Lit.int .i64 x.2).wf = true := by
  have h0 := h
  unfold keyOf at h0
  rw [Try.underlying103] at h0
  have hf : Value.formed Try.prog 103 key = true := by
    cases hx : Value.formed Try.prog 103 key
    · rw [hx] at h0; simp only [Bool.and_false, Bool.false_eq_true, if_false, reduceCtorEq] at h0
    · rfl
  clear h0
  cases key <;> simp only [Value.formed, Try.underlying103, coP, Bool.false_eq_true] at hf
  rename_i cs
  have hs : cs.size = 2 := by simpa using hf
  obtain ⟨a, b, rfl⟩ : ∃ a b, cs = #[a, b] := by
    obtain ⟨l⟩ := cs
    match l, hs with
    | [a, b], _ => exact ⟨a, b, rfl⟩
  rw [keyOf_ag] at h
  cases ha : kI a with
  | none => rw [ha] at h; cases h
  | some x =>
    cases hb : kI b with
    | none => rw [ha, hb] at h; cases h
    | some y =>
      obtain ⟨n, rfl, rfl, hn⟩ := kI_inv ha
      obtain ⟨m, rfl, rfl, hm⟩ := kI_inv hb
      rw [ha, hb] at h
      exact ⟨(n, m), rfl, (Option.some.inj h).symm, hn, hm⟩
theorem encP_inj {x y : Int × Int} (h : encP x = encP y) : x = y := by
  obtain ⟨a, b⟩ := x
  obtain ⟨c, d⟩ := y
  simp [encP] at h
  rw [h.1, h.2]
theorem kP_inj {x y : Int × Int} {l : Lit} (hx : keyOf Try.prog 103 (encP x) = some l) (hy : keyOf Try.prog 103 (encP y) = some l) : x = y := encP_inj (keyedP.inj hx hy)
def CollP {H : Type} (D0 : DataW H) (left : Lit → Bool) (ss : List (Int × Int)) : Prop := ss.Nodup ∧ (∀ x ∈ ss, ∃ l, keyOf Try.prog 103 (encP x) = some l) ∧ ∀ x l, keyOf Try.prog 103 (encP x) = some l → (x ∈ ss ↔ has D0 l = true ∧ left l = false)
theorem CollP.start {H : Type} (D0 : DataW H) : CollP D0 (has D0) [] := ⟨List.nodup_nil, fun x hx => (by cases hx), fun x l _ => by cases has D0 l <;> simp⟩
theorem CollP.step {H : Type} {D0 : DataW H} {left : Lit → Bool} {ss : List (Int × Int)} (h : CollP D0 left ss) {x : Int × Int} {kl : Lit} {y : DataW H} (hk : keyOf Try.prog 103 (encP x) = some kl) (hlk : left kl = true) (hat : ∀ zd, D0.atKey kl zd = y) : CollP D0 (fun z => left z && !z.sameKey kl) (ss ++ [x]) := by
  have hhas : has D0 kl = true := has_true_of_atKey hat
  have hnew : x ∉ ss := fun hx => by have := ((h.2.2 x kl hk).1 hx).2; rw [hlk] at this; cases this
  refine ⟨List.nodup_append.2 ⟨h.1, by simp, fun a ha b hb => by simp at hb; subst hb; exact fun e => hnew (e ▸ ha)⟩, fun z hz => ?_, fun z l hz => ?_⟩
  · rcases List.mem_append.1 hz with hz | hz
    · exact h.2.1 z hz
    · simp at hz; subst hz; exact ⟨kl, hk⟩
  · obtain ⟨s1, rfl⟩ := lawP.str hk
    obtain ⟨s2, rfl⟩ := lawP.str hz
    by_cases hy : z = x
    · subst hy
      cases hk.symm.trans hz
      simp [hhas, Lit.sameKey]
    · have hne : ¬ s2 = s1 := fun e => hy (kP_inj (by rw [e] at hz; exact hz) hk)
      rw [List.mem_append, h.2.2 z _ hz]
      simp [hy, Lit.sameKey, hne]
end Go.Proofs.Ythoojnjcdllgdaa
