import Derived.Test.YthoojnjcdllgdaaGreatDoorProg
import Derived.Shelf.SlIterI.Nil
import Derived.DeepKeys4
import Derived.KernelRfl
/-
  A map's keys that are pairs, as they come. No statement stands here.
-/
set_option linter.all false
namespace Go.Proofs.YthoojnjcdllgdaaGreatDoor
open Go Go.RowKit Go.Maps Go.Sort Go.Shelf Go.Proofs
set_option maxRecDepth 100000
set_option maxHeartbeats 4000000

abbrev encP (x : Int × Int) : Value := .agg #[.int .i64 x.1, .int .i64 x.2]
theorem lawP : WideMaps.KeyLaw Tryz.prog 109 := deep_law_laid (by kernel_rfl) (m := 3) (by omega) (by decide +kernel) (by kernel_rfl) (by kernel_rfl)
theorem keyedP : Keyed Tryz.prog 109 := .of_law lawP
def kP (x : Int × Int) : Lit := .string (keyBytes [.int .i64 x.1, .int .i64 x.2])
theorem ktP : Tryz.prog.keyType 109 = true := by kernel_rfl
theorem coP : Tryz.prog.cellsOf 109 = 2 := by kernel_rfl
theorem co3 : Tryz.prog.cellsOf 3 = 1 := by kernel_rfl
def kI : Value → Option Lit
  | .int q n => if q = .i64 ∧ (Lit.int .i64 n).wf = true then some (.int .i64 n) else none
  | _ => none
theorem kl_I (d : Nat) (a : Value) : Tryz.prog.keyLits (d + 1) 3 [a] = (kI a).map fun l => [l] := by
  unfold Program.keyLits
  rw [Tryz.underlying3]
  cases a <;> simp only [kI, Option.map_none]
  rename_i q n
  by_cases h : q = .i64 ∧ (Lit.int .i64 n).wf = true
  · rw [if_pos h, if_pos h]; rfl
  · rw [if_neg h, if_neg h]; rfl
theorem kl_P (d : Nat) (a b : Value) : Tryz.prog.keyLits (d + 2) 109 [a, b] = (kI a).bind fun x => (kI b).map fun y => [x, y] := by
  unfold Program.keyLits
  rw [Tryz.underlying109]
  simp only [coP, List.length_cons, List.length_nil]
  rw [if_pos (by refine ⟨trivial, ?_⟩; decide +kernel)]
  simp only [List.mapM_cons, List.mapM_nil, co3, List.drop_zero, List.drop_succ_cons, List.take_succ_cons, List.take_zero, kl_I]
  cases kI a <;> cases kI b <;> rfl
theorem sz1 : ∃ n, Tryz.prog.types.size + 1 = n + 2 := by
  have h : 0 < Tryz.prog.types.size := by decide +kernel
  exact ⟨Tryz.prog.types.size - 1, by omega⟩
theorem keyOf_ag (a b : Value) : keyOf Tryz.prog 109 (.agg #[a, b]) = ((kI a).bind fun x => (kI b).map fun y => [x, y]).map fun ls => Lit.string (keyBytes ls) := by
  obtain ⟨n, hn⟩ := sz1
  unfold keyOf
  rw [Tryz.underlying109]
  have hf : Value.formed Tryz.prog 109 (.agg #[a, b]) = true := by
    simp only [Value.formed, Tryz.underlying109, coP]; rfl
  simp only [hf, ktP, Bool.and_self, if_true, hn]
  rw [show (Value.agg #[a, b]).cells.toList = [a, b] from rfl, kl_P]
theorem keyOf_P (x : Int × Int) (h1 : (Lit.int .i64 x.1).wf = true) (h2 : (Lit.int .i64 x.2).wf = true) : keyOf Tryz.prog 109 (encP x) = some (kP x) := by
  rw [keyOf_ag]
  simp only [kI, h1, h2, and_self, if_true, Option.bind_some, Option.map_some]; rfl
theorem kI_inv {a : Value} {l : Lit} (h : kI a = some l) : ∃ n, a = .int .i64 n ∧ l = .int .i64 n ∧ (Lit.int .i64 n).wf = true := by
  cases a <;> simp only [kI, reduceCtorEq] at h
  rename_i q n
  split at h
  · rename_i hq
    cases h
    obtain ⟨rfl, hw⟩ := hq
    exact ⟨n, rfl, rfl, hw⟩
  · cases h
theorem inv_P {key : Value} {kl : Lit} (h : keyOf Tryz.prog 109 key = some kl) : ∃ x : Int × Int, key = encP x ∧ kl = kP x ∧ (Lit.int .i64 x.1).wf = true ∧ (Lit.int .i64 x.2).wf = true := by
  have h0 := h
  unfold keyOf at h0
  rw [Tryz.underlying109] at h0
  have hf : Value.formed Tryz.prog 109 key = true := by
    cases hx : Value.formed Tryz.prog 109 key
    · rw [hx] at h0; simp only [Bool.and_false, Bool.false_eq_true, if_false, reduceCtorEq] at h0
    · rfl
  clear h0
  cases key <;> simp only [Value.formed, Tryz.underlying109, coP, Bool.false_eq_true] at hf
  rename_i cs
  have hs : cs.size = 2 := by simpa using hf
  obtain ⟨a, b, rfl⟩ : ∃ a b, cs = #[a, b] := by
    obtain ⟨l⟩ := cs
    match l, hs with
    | [a, b], _ => exact ⟨a, b, rfl⟩
  rw [keyOf_ag] at h
  cases ha : kI a with
  | none => rw [ha] at h; cases h
  | some x =>
    cases hb : kI b with
    | none => rw [ha, hb] at h; cases h
    | some y =>
      obtain ⟨n, rfl, rfl, hn⟩ := kI_inv ha
      obtain ⟨m, rfl, rfl, hm⟩ := kI_inv hb
      rw [ha, hb] at h
      exact ⟨(n, m), rfl, (Option.some.inj h).symm, hn, hm⟩
theorem encP_inj {x y : Int × Int} (h : encP x = encP y) : x = y := by
  obtain ⟨a, b⟩ := x
  obtain ⟨c, d⟩ := y
  simp [encP] at h
  rw [h.1, h.2]
theorem kP_inj {x y : Int × Int} {l : Lit} (hx : keyOf Tryz.prog 109 (encP x) = some l) (hy : keyOf Tryz.prog 109 (encP y) = some l) : x = y := encP_inj (keyedP.inj hx hy)
def CollP {H : Type} (D0 : DataW H) (left : Lit → Bool) (ss : List (Int × Int)) : Prop := ss.Nodup ∧ (∀ x ∈ ss, ∃ l, keyOf Tryz.prog 109 (encP x) = some l) ∧ ∀ x l, keyOf Tryz.prog 109 (encP x) = some l → (x ∈ ss ↔ has D0 l = true ∧ left l = false)
theorem CollP.start {H : Type} (D0 : DataW H) : CollP D0 (has D0) [] := ⟨List.nodup_nil, fun x hx => (by cases hx), fun x l _ => by cases has D0 l <;> simp⟩
theorem CollP.step {H : Type} {D0 : DataW H} {left : Lit → Bool} {ss : List (Int × Int)} (h : CollP D0 left ss) {x : Int × Int} {kl : Lit} {y : DataW H} (hk : keyOf Tryz.prog 109 (encP x) = some kl) (hlk : left kl = true) (hat : ∀ zd, D0.atKey kl zd = y) : CollP D0 (fun z => left z && !z.sameKey kl) (ss ++ [x]) := by
  have hhas : has D0 kl = true := has_true_of_atKey hat
  have hnew : x ∉ ss := fun hx => by have := ((h.2.2 x kl hk).1 hx).2; rw [hlk] at this; cases this
  refine ⟨List.nodup_append.2 ⟨h.1, by simp, fun a ha b hb => by simp at hb; subst hb; exact fun e => hnew (e ▸ ha)⟩, fun z hz => ?_, fun z l hz => ?_⟩
  · rcases List.mem_append.1 hz with hz | hz
    · exact h.2.1 z hz
    · simp at hz; subst hz; exact ⟨kl, hk⟩
  · obtain ⟨s1, rfl⟩ := lawP.str hk
    obtain ⟨s2, rfl⟩ := lawP.str hz
    by_cases hy : z = x
    · subst hy
      cases hk.symm.trans hz
      simp [hhas, Lit.sameKey]
    · have hne : ¬ s2 = s1 := fun e => hy (kP_inj (by rw [e] at hz; exact hz) hk)
      rw [List.mem_append, h.2.2 z _ hz]
      simp [hy, Lit.sameKey, hne]
end Go.Proofs.YthoojnjcdllgdaaGreatDoor
/-
  A map's keys that are pairs, collected. No statement stands here.
-/
set_option linter.all false
namespace Go.Proofs.YthoojnjcdllgdaaGreatDoor
open Go Go.RowKit Go.Maps Go.Sort Go.Shelf Go.Proofs
set_option maxRecDepth 100000
set_option maxHeartbeats 4000000

def rP (_ : Value) : Option (DataW Unit × List MemPlace) := some (.lit (.bool true), [])

theorem keys1P_in (n : Nat) (hn : 1 ≤ n) (l Bm b nn : Nat) (D0 : DataW Unit) (J : List (Int × Int) → World → Prop)
    (hY : ∀ pre x W, J pre W → pre.length < Maps.size D0 → YieldAt Fence.wide (n - 1) Tryz.prog l #[encP x] W fun e W' => e = .returned (.bool true) ∧ J (pre ++ [x]) W' ∧ KeepsWalks W W')
    (W : World) (hJ : AbidesFrom W.heap.size J) (hm : W.cell? ⟨Bm, 0, none⟩ = some (.map (some b))) (hown : W.ownsMap Tryz.prog 109 rP b nn D0) (h0 : J [] W) :
    CallsIn Fence.wide n Tryz.prog 56 #[.func (.yield l) #[] #[], .pointer (some ⟨Bm, 0, none⟩)] W fun e W' => (∃ v, e = .returned v) ∧ ∃ ss : List (Int × Int), (∃ left, CollP D0 left ss ∧ ∀ kl, left kl = false) ∧ J ss W' := by
  have h10 : Fence.wide.fn 56 := trivial
  have hro : Fence.wide.round = none := rfl
  have mixed : Tryz.prog.follows .mixedOrders = true := by kernel_rfl
  have t0 := Tryz.underlying0; have a0 := Tryz.isAgg0; have z0 := Tryz.sizeOf0; have v0 := Tryz.zeroValue0; have t4 := Tryz.underlying4; have a4 := Tryz.isAgg4; have z4 := Tryz.sizeOf4; have v4 := Tryz.zeroValue4
  have t23 := Tryz.underlying106; have a23 := Tryz.isAgg106; have z23 := Tryz.sizeOf106; have v23 := Tryz.zeroValue106; have a26 := Tryz.isAgg109; have z26 := Tryz.sizeOf109; have v26 := Tryz.zeroValue109; have t33 := Tryz.underlying133; have a33 := Tryz.isAgg133; have z33 := Tryz.sizeOf133; have v33 := Tryz.zeroValue133
  have u0 := run_underlying Tryz.underlying0; have u4 := run_underlying Tryz.underlying4; have u23 := run_underlying Tryz.underlying106; have u33 := run_underlying Tryz.underlying133
  refine callsIn_of_wp Tryz.func56 rfl h10 ?_ hro
  simp only [Tryz.ntmps56, List.size_toArray, List.length_cons, List.length_nil, Nat.reduceAdd, Nat.reduceSub, Array.replicate_succ, Array.replicate_zero, List.push_toArray, List.append_toArray, List.nil_append, List.cons_append]
  gi_wp2_with (first
    | (gi_at_range; refine wpListIn_range_own _ rfl _ 106 rfl 109 96 keyedP Tryz.underlying106 _ b nn _ rfl hown ?_; intro w0 hrg0 hg0 hs0)
    | gi_in)
  go_frame
  gi_loopw [3] (fun _ wr => ∃ (left : Lit → Bool) (cnt : Nat) (ss : List (Int × Int)), wr.ranges Tryz.prog 109 rP b W.heap.size nn D0 left cnt ∧ ss.length + cnt ≤ Maps.size D0 ∧ CollP D0 left ss ∧ J ss wr)
    (fun _ wr => wr.rangeLeft b W.heap.size)
  case atStart =>
    exact ⟨_, _, [], hrg0, by simp, CollP.start D0, hJ [] W w0 none h0 hg0 (fun r e => by cases e)⟩
  case round =>
    obtain ⟨left, cnt, ss, hrg, hcs, hC, hJs⟩ := hrel
    gi_wp2_with (first
      | (gi_at_next; refine wpListIn_next_ranges _ rfl _ rfl 109 keyedP rP encP id (fun key kl hk => by obtain ⟨x, hx, _⟩ := inv_P hk; exact ⟨x, hx⟩) (fun v _ _ => ⟨v, rfl⟩) b W.heap.size nn _ _ _ rfl hrg ?_ ?_)
      | gi_in)
    · -- NOTHING IS LEFT
      intro hc0 hl0
      gi_wp2
      go_end0
      exact ⟨⟨_, rfl⟩, ss, ⟨left, hC, hl0⟩, hJs⟩
    · -- AN ENTRY HAS COME: yield(k)
      intro x1 x2 c kl yd yp w2 cnt2 hkey hlk hv hat hrg2 hlt hg2 hs2 hen
      have hJ2 : J ss w2 := hJ ss wr w2 (some W.heap.size) hJs hg2 (fun r e => by cases e; exact ⟨Nat.le_refl _, hrg.iter_walk⟩)
      clear hs2
      have hga : w2.grownBy (w2.alloc (.cells #[.int .i64 x1, .int .i64 x2] 109)) none := World.grownBy_alloc _ _ _
      have hJ3 := hJ ss w2 _ none hJ2 hga (fun r e => by cases e)
      have hka : KeepsWalks w2 (w2.alloc (.cells #[.int .i64 x1, .int .i64 x2] 109)) := KeepsWalks.alloc _ _
      have hrga := hrg2.of_walks hka
      obtain ⟨fn, tmps, assign, body, hy, hR⟩ := hY ss (x1, x2) _ hJ3 (by omega)
      replace hy : (Instr.yield l #[.agg #[.int .i64 x1, .int .i64 x2]]).run Tryz.prog (w2.alloc (.cells #[.int .i64 x1, .int .i64 x2] 109)) = .ok (.round l fn tmps assign body) (w2.alloc (.cells #[.int .i64 x1, .int .i64 x2] 109)) := hy
      clear hJ2 hga hJ3 hka
      gi_wp2
      refine hR.mono ?_
      rintro e W3 ⟨rfl, hJ4, hk3⟩
      gi_wp2
      have hrg3 := hrga.of_walks hk3
      go_roundw
      case rel => exact ⟨_, cnt2, ss ++ [(x1, x2)], hrg3, by simp; omega, hC.step hkey hlk hat, hJ4⟩
      case measure => rw [hrg3.left_eq, hrg.left_eq]; exact hlt
end Go.Proofs.YthoojnjcdllgdaaGreatDoor
