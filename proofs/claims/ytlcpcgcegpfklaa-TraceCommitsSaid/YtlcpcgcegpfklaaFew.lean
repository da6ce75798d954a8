/-
  Contracts: whether moves are few; a trace's floor. No statement stands here.
-/
import Derived.Test.YtlcpcgcegpfklaaHits
set_option linter.all false
namespace Go.Proofs.Ytlcpcgcegpfklaa
open Go Rf
set_option maxRecDepth 100000
set_option maxHeartbeats 2000000

def szM (m : Mt) : Nat := (bytesOf m.bs).length + (m.vs.map fun n => V.i .i64 n).length + (m.rl.map rV).length
def sumM (ms : List Mt) : Nat := (ms.map szM).sum
theorem wrap_nat {a : Nat} (h : a ≤ 4611686018427387904) : wrapF .i64 (a : Int) = (a : Int) := by
  rw [wrapF_eq, wrap_in] <;> simp [lim, IntKind.signed] <;> omega
theorem sum_le : ∀ (ms : List Mt) (b : Nat), (∀ m ∈ ms, szM m ≤ b) → sumM ms ≤ ms.length * b
  | [], b, _ => by simp [sumM]
  | m :: r, b, h => by
    have h1 := h m (List.mem_cons_self ..)
    have h2 := sum_le r b (fun x hx => h x (List.mem_cons_of_mem _ hx))
    simp only [sumM, List.map_cons, List.sum_cons, List.length_cons, Nat.succ_mul] at *
    omega
theorem sum_app (a : List Mt) (m : Mt) : sumM (a ++ [m]) = sumM a + szM m := by simp [sumM]
theorem wrap3 {S a b c : Nat} (h : S + a + b + c ≤ 4611686018427387904) : wrapF .i64 (wrapF .i64 (wrapF .i64 ((S : Int) + (a : Int)) + (b : Int)) + (c : Int)) = ((S + a + b + c : Nat) : Int) := by
  rw [show ((S : Int) + (a : Int)) = ((S + a : Nat) : Int) by omega, wrap_nat (by omega), show (((S + a : Nat) : Int) + (b : Int)) = ((S + a + b : Nat) : Int) by omega, wrap_nat (by omega), show (((S + a + b : Nat) : Int) + (c : Int)) = ((S + a + b + c : Nat) : Int) by omega, wrap_nat h]
def fewB (ms : List Mt) : Bool := leZ (ms.length : Nat) 60 && leZ (sumM (ms.take 61) : Nat) 3000
def E9 (ms : List Mt) (i n : Nat) : List V := msV ms :: .bad :: .bad :: .i .i64 (n : Nat) :: .i .i64 (i : Nat) :: List.replicate 42 .bad

theorem few_den (ms : List Mt) (hml : ms.length ≤ maxLen) (hw : ∀ m ∈ ms, szM m ≤ 1125899906842624) : PDen gt0 Try.prog 9 [msV ms] (.b (fewB ms)) := by
  generalize hB : fewB ms = B
  refine PDen.hc gnm0 hF9 (nm1 (msV_nm _)) (.b _) ?_
  have hlx : (ms.map Mt.v).length = ms.length := List.length_map ..
  have fin : ∀ i : Nat, (ms.take i = ms.take 61) → sumM (ms.take i) = sumM (ms.take 61) := fun i h => by rw [h]
  conv => whnf
  repeat ((first | refine HO.bsl1 rfl rfl rfl ?_ | refine HC.seq ?_ | refine HC.ops ?_ | refine HO.k ?_ | refine HO.g ?_ | refine HO.nil ?_ | refine HC.drw mixed ?_ | refine HD.k ?_ | refine HD.g ?_ | refine HD.nil ?_ | refine HC.blk ?_ | refine HC.cond ?_ | refine HC.skip ?_ | refine HC.exit ?_ | refine HC.ret ?_ | rw [fL_eq]); conv => whnf)
  refine HC.loop gnm0 fun hg => ⟨fun n e s => s = s0 ∧ ∃ i : Nat, i ≤ ms.length ∧ i ≤ 61 ∧ n = ms.length - i ∧ e = E9 ms i (sumM (ms.take i)), ⟨ms.length, fg [0, 3, 4] _, _, Wk.fg hg.1 hg.2, rfl, 0, Nat.zero_le _, Nat.zero_le _, rfl, rfl⟩, ?_⟩
  rintro n e s ⟨rfl, i, hi, hi6, rfl, rfl⟩
  have hsb : sumM (ms.take i) ≤ 61 * 1125899906842624 := by
    refine Nat.le_trans (sum_le _ 1125899906842624 (fun m hm => hw m (List.mem_of_mem_take hm))) (Nat.mul_le_mul_right _ ?_)
    rw [List.length_take]; omega
  conv => whnf
  repeat ((first | refine HO.bsl1 rfl rfl rfl ?_ | refine HC.seq ?_ | refine HC.ops ?_ | refine HO.k ?_ | refine HO.g ?_ | refine HO.nil ?_ | refine HC.drw mixed ?_ | refine HD.k ?_ | refine HD.g ?_ | refine HD.nil ?_ | refine HC.blk ?_ | refine HC.cond ?_ | refine HC.skip ?_ | refine HC.exit ?_ | refine HC.ret ?_ | rw [fL_eq]); conv => whnf)
  refine brB_iff.2 ⟨fun h1 => ?_, fun h1 => ?_⟩ <;> conv => whnf
  · have hlt : i < ms.length := by rw [ltZ_eq] at h1; simp at h1; omega
    have hmx : (ms.map Mt.v)[((i : Nat) : Int).toNat]? = some (ms[i]).v := by simp [hlt]
    have hgi : ms[i]? = some ms[i] := by simp [hlt]
    have hwi := hw ms[i] (List.getElem_mem hlt)
    generalize ms[i] = m at hmx hgi hwi
    have htk := take_at hgi
    have hsa : sumM (ms.take (i + 1)) = sumM (ms.take i) + (bytesOf m.bs).length + (m.vs.map fun n => V.i .i64 n).length + (m.rl.map rV).length := by
      rw [htk, sum_app]; unfold szM; omega
    unfold szM at hwi
    repeat ((first | refine HO.bsl1 rfl rfl rfl ?_ | refine HC.seq ?_ | refine HC.ops ?_ | refine HO.k ?_ | refine HO.g ?_ | refine HO.nil ?_ | refine HC.drw mixed ?_ | refine HD.k ?_ | refine HD.g ?_ | refine HD.nil ?_ | refine HC.blk ?_ | refine HC.cond ?_ | refine HC.skip ?_ | refine HC.exit ?_ | refine HC.ret ?_ | rw [fL_eq]); conv => whnf)
    refine brB_iff.2 ⟨fun h2 => ?_, fun h2 => ?_⟩ <;> conv => whnf
    · have h60 : i ≤ 60 := by rw [leZ_eq] at h2; simp at h2; omega
      repeat ((first | refine HO.bsl1 rfl rfl rfl ?_ | refine HC.seq ?_ | refine HC.ops ?_ | refine HO.k ?_ | refine HO.g ?_ | refine HO.nil ?_ | refine HC.drw mixed ?_ | refine HD.k ?_ | refine HD.g ?_ | refine HD.nil ?_ | refine HC.blk ?_ | refine HC.cond ?_ | refine HC.skip ?_ | refine HC.exit ?_ | refine HC.ret ?_ | rw [fL_eq]); conv => whnf)
      refine ⟨rfl, Int.natCast_nonneg _, _, hmx, ?_⟩
      conv => whnf
      repeat ((first | refine HO.bsl1 rfl rfl rfl ?_ | refine HC.seq ?_ | refine HC.ops ?_ | refine HO.k ?_ | refine HO.g ?_ | refine HO.nil ?_ | refine HC.drw mixed ?_ | refine HD.k ?_ | refine HD.g ?_ | refine HD.nil ?_ | refine HC.blk ?_ | refine HC.cond ?_ | refine HC.skip ?_ | refine HC.exit ?_ | refine HC.ret ?_ | rw [fL_eq]); conv => whnf)
      refine ⟨rfl, Int.natCast_nonneg _, _, hmx, ?_⟩
      conv => whnf
      repeat ((first | refine HO.bsl1 rfl rfl rfl ?_ | refine HC.seq ?_ | refine HC.ops ?_ | refine HO.k ?_ | refine HO.g ?_ | refine HO.nil ?_ | refine HC.drw mixed ?_ | refine HD.k ?_ | refine HD.g ?_ | refine HD.nil ?_ | refine HC.blk ?_ | refine HC.cond ?_ | refine HC.skip ?_ | refine HC.exit ?_ | refine HC.ret ?_ | rw [fL_eq]); conv => whnf)
      refine ⟨rfl, Int.natCast_nonneg _, _, hmx, ?_⟩
      conv => whnf
      repeat ((first | refine HO.bsl1 rfl rfl rfl ?_ | refine HC.seq ?_ | refine HC.ops ?_ | refine HO.k ?_ | refine HO.g ?_ | refine HO.nil ?_ | refine HC.drw mixed ?_ | refine HD.k ?_ | refine HD.g ?_ | refine HD.nil ?_ | refine HC.blk ?_ | refine HC.cond ?_ | refine HC.skip ?_ | refine HC.exit ?_ | refine HC.ret ?_ | rw [fL_eq]); conv => whnf)
      rw [wrap3 (by omega), wrap_succ hlt hml, ← hsa]
      intro hg'
      exact ⟨ms.length - (i + 1), fg [0, 3, 4] _, _, by omega, Wk.fg hg'.1 hg'.2, rfl, i + 1, hlt, by omega, rfl, rfl⟩
    · have h61 : i = 61 := by rw [leZ_eq] at h2; simp at h2; omega
      have hsE : sumM (ms.take i) = sumM (ms.take 61) := by rw [h61]
      repeat ((first | refine HO.bsl1 rfl rfl rfl ?_ | refine HC.seq ?_ | refine HC.ops ?_ | refine HO.k ?_ | refine HO.g ?_ | refine HO.nil ?_ | refine HC.drw mixed ?_ | refine HD.k ?_ | refine HD.g ?_ | refine HD.nil ?_ | refine HC.blk ?_ | refine HC.cond ?_ | refine HC.skip ?_ | refine HC.exit ?_ | refine HC.ret ?_ | rw [fL_eq]); conv => whnf)
      refine brB_iff.2 ⟨fun h3 => ?_, fun h3 => ?_⟩ <;> conv => whnf
      · repeat ((first | refine HO.bsl1 rfl rfl rfl ?_ | refine HC.seq ?_ | refine HC.ops ?_ | refine HO.k ?_ | refine HO.g ?_ | refine HO.nil ?_ | refine HC.drw mixed ?_ | refine HD.k ?_ | refine HD.g ?_ | refine HD.nil ?_ | refine HC.blk ?_ | refine HC.cond ?_ | refine HC.skip ?_ | refine HC.exit ?_ | refine HC.ret ?_ | rw [fL_eq]); conv => whnf)
        rw [hlx] at h3
        rw [← hB, fewB, h3, hsE]; rfl
      · repeat ((first | refine HO.bsl1 rfl rfl rfl ?_ | refine HC.seq ?_ | refine HC.ops ?_ | refine HO.k ?_ | refine HO.g ?_ | refine HO.nil ?_ | refine HC.drw mixed ?_ | refine HD.k ?_ | refine HD.g ?_ | refine HD.nil ?_ | refine HC.blk ?_ | refine HC.cond ?_ | refine HC.skip ?_ | refine HC.exit ?_ | refine HC.ret ?_ | rw [fL_eq]); conv => whnf)
        rw [hlx] at h3
        rw [← hB, fewB, h3]; rfl
  · have hge : ms.length ≤ i := by rw [ltZ_eq] at h1; simp at h1; omega
    have hsE : sumM (ms.take i) = sumM (ms.take 61) := by rw [List.take_of_length_le hge, List.take_of_length_le (by omega)]
    repeat ((first | refine HO.bsl1 rfl rfl rfl ?_ | refine HC.seq ?_ | refine HC.ops ?_ | refine HO.k ?_ | refine HO.g ?_ | refine HO.nil ?_ | refine HC.drw mixed ?_ | refine HD.k ?_ | refine HD.g ?_ | refine HD.nil ?_ | refine HC.blk ?_ | refine HC.cond ?_ | refine HC.skip ?_ | refine HC.exit ?_ | refine HC.ret ?_ | rw [fL_eq]); conv => whnf)
    refine brB_iff.2 ⟨fun h3 => ?_, fun h3 => ?_⟩ <;> conv => whnf
    · repeat ((first | refine HO.bsl1 rfl rfl rfl ?_ | refine HC.seq ?_ | refine HC.ops ?_ | refine HO.k ?_ | refine HO.g ?_ | refine HO.nil ?_ | refine HC.drw mixed ?_ | refine HD.k ?_ | refine HD.g ?_ | refine HD.nil ?_ | refine HC.blk ?_ | refine HC.cond ?_ | refine HC.skip ?_ | refine HC.exit ?_ | refine HC.ret ?_ | rw [fL_eq]); conv => whnf)
      rw [hlx] at h3
      rw [← hB, fewB, h3, hsE]; rfl
    · repeat ((first | refine HO.bsl1 rfl rfl rfl ?_ | refine HC.seq ?_ | refine HC.ops ?_ | refine HO.k ?_ | refine HO.g ?_ | refine HO.nil ?_ | refine HC.drw mixed ?_ | refine HD.k ?_ | refine HD.g ?_ | refine HD.nil ?_ | refine HC.blk ?_ | refine HC.cond ?_ | refine HC.skip ?_ | refine HC.exit ?_ | refine HC.ret ?_ | rw [fL_eq]); conv => whnf)
      rw [hlx] at h3
      rw [← hB, fewB, h3]; rfl

def E18 : Unit := ()
def lastT (l : List Rc) : Int := match l.getLast? with
  | some r => r 0
  | none => -1
theorem last_at {l : List Rc} (h : l.length ≠ 0) : ∃ r, (l.map rV)[l.length - 1]? = some (rV r) ∧ lastT l = r 0 := by
  have h1 : l.length - 1 < l.length := by omega
  refine ⟨l[l.length - 1], by simp [h1], ?_⟩
  unfold lastT
  rw [List.getLast?_eq_getElem?, List.getElem?_eq_getElem h1]
theorem floor_den (ms : List Mt) (hf : few6 ms) : PDen gt0 Try.prog 18 [msV ms] (.i .i64 (lastT (evs ms))) := by
  have hev := tre_den ms hf
  have hle : (evs ms).length ≤ 60 := Nat.le_trans (by have := evs_take_le ms ms.length; rwa [List.take_length] at this) hf.1
  generalize evs ms = l at hev hle
  refine PDen.hc gnm0 hF18 (nm1 (msV_nm _)) (.i _ _) ?_
  have hlx : (l.map rV).length = l.length := List.length_map ..
  conv => whnf
  repeat ((first | refine HO.bsl1 rfl rfl rfl ?_ | refine HC.seq ?_ | refine HC.ops ?_ | refine HO.k ?_ | refine HO.g ?_ | refine HO.nil ?_ | refine HC.drw mixed ?_ | refine HD.k ?_ | refine HD.g ?_ | refine HD.nil ?_ | refine HC.blk ?_ | refine HC.cond ?_ | refine HC.skip ?_ | refine HC.exit ?_ | refine HC.ret ?_ | rw [fL_eq]); conv => whnf)
  refine ⟨_, _, hev _, ?_⟩
  conv => whnf
  repeat ((first | refine HO.bsl1 rfl rfl rfl ?_ | refine HC.seq ?_ | refine HC.ops ?_ | refine HO.k ?_ | refine HO.g ?_ | refine HO.nil ?_ | refine HC.drw mixed ?_ | refine HD.k ?_ | refine HD.g ?_ | refine HD.nil ?_ | refine HC.blk ?_ | refine HC.cond ?_ | refine HC.skip ?_ | refine HC.exit ?_ | refine HC.ret ?_ | rw [fL_eq]); conv => whnf)
  refine brB_iff.2 ⟨fun h1 => ?_, fun h1 => ?_⟩ <;> conv => whnf
  · have h0 : l = [] := by rw [eqZ_eq] at h1; simp at h1; exact h1
    subst h0
    repeat ((first | refine HO.bsl1 rfl rfl rfl ?_ | refine HC.seq ?_ | refine HC.ops ?_ | refine HO.k ?_ | refine HO.g ?_ | refine HO.nil ?_ | refine HC.drw mixed ?_ | refine HD.k ?_ | refine HD.g ?_ | refine HD.nil ?_ | refine HC.blk ?_ | refine HC.cond ?_ | refine HC.skip ?_ | refine HC.exit ?_ | refine HC.ret ?_ | rw [fL_eq]); conv => whnf)
    rfl
  · have h0 : l.length ≠ 0 := by rw [eqZ_eq] at h1; simp at h1; intro h; exact h1 (List.length_eq_zero_iff.1 h)
    obtain ⟨r, hr, hlast⟩ := last_at h0
    have hwr : wrapF .i64 (((l.map rV).length : Int) - 1) = ((l.length - 1 : Nat) : Int) := by
      rw [hlx, show ((l.length : Int) - 1) = ((l.length - 1 : Nat) : Int) by omega, wrap_nat (by omega)]
    repeat ((first | refine HO.bsl1 rfl rfl rfl ?_ | refine HC.seq ?_ | refine HC.ops ?_ | refine HO.k ?_ | refine HO.g ?_ | refine HO.nil ?_ | refine HC.drw mixed ?_ | refine HD.k ?_ | refine HD.g ?_ | refine HD.nil ?_ | refine HC.blk ?_ | refine HC.cond ?_ | refine HC.skip ?_ | refine HC.exit ?_ | refine HC.ret ?_ | rw [fL_eq]); conv => whnf)
    rw [hwr]
    refine ⟨rfl, Int.natCast_nonneg _, _, hr, ?_⟩
    conv => whnf
    repeat ((first | refine HO.bsl1 rfl rfl rfl ?_ | refine HC.seq ?_ | refine HC.ops ?_ | refine HO.k ?_ | refine HO.g ?_ | refine HO.nil ?_ | refine HC.drw mixed ?_ | refine HD.k ?_ | refine HD.g ?_ | refine HD.nil ?_ | refine HC.blk ?_ | refine HC.cond ?_ | refine HC.skip ?_ | refine HC.exit ?_ | refine HC.ret ?_ | rw [fL_eq]); conv => whnf)
    rw [hlast]
end Go.Proofs.Ytlcpcgcegpfklaa
