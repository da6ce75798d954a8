/-
  Contracts: code.Copy, what it makes being written later. No statement stands here.
-/
import Derived.Test.YtklgkdehnaecnaaDoorClone
import Derived.Test.YtklgkdehnaecnaaDoorRfTc
set_option linter.all false
namespace Go.Proofs.YtklgkdehnaecnaaDoor
open Go Rf
set_option maxRecDepth 100000
set_option maxHeartbeats 1000000

/-- the cells of kinds that are copied, their objects laid one behind the other -/
def kcs (d : Nat) : List Kd → List V
  | [] => []
  | k :: r => clkT d k :: kcs (d + (clkO k).length) r
def kos (ks : List Kd) : List O := ks.flatMap clkO
theorem kcs_len : ∀ (ks : List Kd) (d : Nat), (kcs d ks).length = ks.length
  | [], d => rfl
  | k :: r, d => by simp [kcs, kcs_len r]
theorem kcs_app : ∀ (a b : List Kd) (d : Nat), kcs d (a ++ b) = kcs d a ++ kcs (d + (kos a).length) b
  | [], b, d => by simp [kcs, kos]
  | k :: r, b, d => by
    have := kcs_app r b (d + (clkO k).length)
    simp only [List.cons_append, kcs, this, kos, List.flatMap_cons, List.length_append, Nat.add_assoc]
theorem kos_app (a b : List Kd) : kos (a ++ b) = kos a ++ kos b := by simp [kos]
theorem kcs_sh : ∀ (ks : List Kd) (d m : Nat) (j : Nat), j < ks.length → Sh d ((kcs m ks).getD j .bad) ((kcs (d + m) ks).getD j .bad)
  | [], d, m, j, h => by simp at h
  | k :: r, d, m, 0, _ => by simpa [kcs] using clkT_sh d m k
  | k :: r, d, m, j + 1, h => by
    have := kcs_sh r d (m + (clkO k).length) j (by simpa using h)
    rw [← Nat.add_assoc] at this
    simpa [kcs] using this
/-- what code.Copy makes, its first name d -/
def ccO (d : Nat) (v : Int) (ks : List Kd) : List O :=
  .c [.i .i64 v, clksT (d + 2) ks] 0 (some 37) :: .c [.i .i64 v, clksT (d + 2) ks] 0 (some 37) :: (match ks with
    | [] => []
    | k :: r => .c (kcs (d + 3) (k :: r)) 0 (some 40) :: kos (k :: r))
def ccT (d : Nat) (v : Int) (ks : List Kd) : V := .ag [.i .i64 v, clksT (d + 2) ks]

/-- in its loop, of so many kinds -/
def ccI (v : Int) (ks : List Kd) (i : Nat) : List O :=
  .c [.i .i64 v, .sl 1 2 0 ks.length none] 0 (some 37) :: .c [.i .i64 0, .ns] 0 (some 37) :: .c (kcs 3 (ks.take i) ++ (ks.drop i).map kV) 0 (some 40) :: kos (ks.take i)
def ECC (ks : List Kd) (i : Nat) : List V := (.bad :: .p 0 0 :: .p 1 0 :: .bad :: .bad :: .bad :: .bad :: .bad :: .bad :: .bad :: .sl 1 2 0 ks.length none :: .i .i64 (ks.length : Nat) :: .i .i64 (i : Nat) :: List.replicate 12 .bad)

theorem drop_at {α : Type} {l : List α} {i : Nat} {a : α} (h : l[i]? = some a) : l.drop i = a :: l.drop (i + 1) := by
  obtain ⟨hi, h⟩ := List.getElem?_eq_some_iff.1 h
  rw [List.drop_eq_getElem_cons hi, h]
theorem take_at {α : Type} {l : List α} {i : Nat} {a : α} (h : l[i]? = some a) : l.take (i + 1) = l.take i ++ [a] := by
  rw [List.take_add_one, h]; rfl

theorem cc_nil (v : Int) : Den gt0 Tryd.prog 32 [pgV v []] s0 (ccT 0 v []) (Rf.s0.adds (ccO 0 v [])) := by
  refine Den.hc hF32 ?_
  conv => whnf
  repeat ((first | refine HO.bsl1 rfl rfl rfl ?_ | refine HC.seq ?_ | refine HC.ops ?_ | refine HO.k ?_ | refine HO.g ?_ | refine HO.nil ?_ | refine HC.drw mixed ?_ | refine HD.k ?_ | refine HD.g ?_ | refine HD.nil ?_ | refine HC.blk ?_ | refine HC.cond ?_ | refine HC.skip ?_ | refine HC.exit ?_ | refine HC.ret ?_ | rw [fL_eq] | rw [fN_eq]); conv => whnf)
  refine ⟨_, _, clks_den [] (by simp) _, ?_⟩
  conv => whnf
  repeat ((first | refine HO.bsl1 rfl rfl rfl ?_ | refine HC.seq ?_ | refine HC.ops ?_ | refine HO.k ?_ | refine HO.g ?_ | refine HO.nil ?_ | refine HC.drw mixed ?_ | refine HD.k ?_ | refine HD.g ?_ | refine HD.nil ?_ | refine HC.blk ?_ | refine HC.cond ?_ | refine HC.skip ?_ | refine HC.exit ?_ | refine HC.ret ?_ | rw [fL_eq] | rw [fN_eq]); conv => whnf)
  refine HC.loop gnm0 fun hg => ⟨fun n e s => s = _ ∧ e = _, ⟨0, fg [1, 2, 10, 11, 12] _, _, Wk.fg hg.1 hg.2, rfl, rfl⟩, ?_⟩
  rintro n e s ⟨rfl, rfl⟩
  conv => whnf
  repeat ((first | refine HO.bsl1 rfl rfl rfl ?_ | refine HC.seq ?_ | refine HC.ops ?_ | refine HO.k ?_ | refine HO.g ?_ | refine HO.nil ?_ | refine HC.drw mixed ?_ | refine HD.k ?_ | refine HD.g ?_ | refine HD.nil ?_ | refine HC.blk ?_ | refine HC.cond ?_ | refine HC.skip ?_ | refine HC.exit ?_ | refine HC.ret ?_ | rw [fL_eq] | rw [fN_eq]); conv => whnf)
  exact ⟨.refl _, sub_eq (by kernel_rfl)⟩

theorem clks_den' (x : Kd) (r : List Kd) (hl : (x :: r).length ≤ 200) (h : Tr O) (n : Nat) : Den gt0 Tryd.prog 58 [ksV (x :: r)] ⟨h, n, []⟩ (.sl 1 n 0 (x :: r).length none) ⟨Tr.put (some (.c (ksC (x :: r)) 0 (some 40))) (n + 1) h n, n + 1, []⟩ := clks_heap (x :: r) (by simp) hl ⟨h, n, []⟩

theorem cc_cons (v : Int) (k0 : Kd) (kr : List Kd) (hl : (k0 :: kr).length ≤ 12) (hk : ∀ k ∈ k0 :: kr, k.length ≤ 200) : Den gt0 Tryd.prog 32 [pgV v (k0 :: kr)] s0 (ccT 0 v (k0 :: kr)) (Rf.s0.adds (ccO 0 v (k0 :: kr))) := by
  refine Den.hc hF32 ?_
  conv => whnf
  repeat ((first | refine HO.bsl1 rfl rfl rfl ?_ | refine HC.seq ?_ | refine HC.ops ?_ | refine HO.k ?_ | refine HO.g ?_ | refine HO.nil ?_ | refine HC.drw mixed ?_ | refine HD.k ?_ | refine HD.g ?_ | refine HD.nil ?_ | refine HC.blk ?_ | refine HC.cond ?_ | refine HC.skip ?_ | refine HC.exit ?_ | refine HC.ret ?_ | rw [fL_eq] | rw [fN_eq]); conv => whnf)
  refine ⟨_, _, clks_den' k0 kr (by omega) _ _, ?_⟩
  conv => whnf
  repeat ((first | refine HO.bsl1 rfl rfl rfl ?_ | refine HC.seq ?_ | refine HC.ops ?_ | refine HO.k ?_ | refine HO.g ?_ | refine HO.nil ?_ | refine HC.drw mixed ?_ | refine HD.k ?_ | refine HD.g ?_ | refine HD.nil ?_ | refine HC.blk ?_ | refine HC.cond ?_ | refine HC.skip ?_ | refine HC.exit ?_ | refine HC.ret ?_ | rw [fL_eq] | rw [fN_eq]); conv => whnf)
  obtain ⟨ks, hks⟩ : ∃ ks, ks = k0 :: kr := ⟨_, rfl⟩
  have hT : clksT 2 ks = .sl 1 2 0 ks.length none := by rw [hks]; rfl
  have hm : maxLen ≥ 12 := by decide
  refine HC.loop gnm0 fun hg => ⟨fun n e s => ∃ i : Nat, i ≤ ks.length ∧ n = ks.length - i ∧ e = ECC ks i ∧ Is s (ccI v ks i), ⟨ks.length, fg [1, 2, 10, 11, 12] _, _, Wk.fg hg.1 hg.2, 0, Nat.zero_le _, rfl, ?_, Is.of_good hg ?_ ?_ (fun l hl => ?_)⟩, ?_⟩
  · subst hks; rfl
  · subst hks; rfl
  · subst hks; rfl
  · subst hks
    have hl : l < 3 := hl
    match l, hl with
    | 0, _ => rfl
    | 1, _ => rfl
    | 2, _ => exact congrArg (fun c => some (O.c c 0 (some 40))) (ksC_eq (k0 :: kr))
  rw [← hks] at hl hk ⊢
  rintro n e s ⟨i, hi, rfl, rfl, hI⟩
  conv => whnf
  repeat ((first | refine HO.bsl1 rfl rfl rfl ?_ | refine HC.seq ?_ | refine HC.ops ?_ | refine HO.k ?_ | refine HO.g ?_ | refine HO.nil ?_ | refine HC.drw mixed ?_ | refine HD.k ?_ | refine HD.g ?_ | refine HD.nil ?_ | refine HC.blk ?_ | refine HC.cond ?_ | refine HC.skip ?_ | refine HC.exit ?_ | refine HC.ret ?_ | rw [fL_eq] | rw [fN_eq]); conv => whnf)
  refine brB_iff.2 ⟨fun h1 => ?_, fun h1 => ?_⟩ <;> conv => whnf
  · have hlt : i < ks.length := by rw [ltZ_eq] at h1; simpa using h1
    have hgi : ks[i]? = some ks[i] := by simp [hlt]
    have hkl := hk ks[i] (List.getElem_mem hlt)
    generalize ks[i] = a at hgi hkl
    have h2 : s.get 2 = some (.c (kcs 3 (ks.take i) ++ (ks.drop i).map kV) 0 (some 40)) := (hI.o 2).trans rfl
    have hc : (kcs 3 (ks.take i) ++ (ks.drop i).map kV)[0 + i * 1]? = some (kV a) := by
      rw [Nat.zero_add, Nat.mul_one, List.getElem?_append_right (by rw [kcs_len, List.length_take]; omega), kcs_len, List.length_take, Nat.min_eq_left hi, Nat.sub_self, drop_at hgi]; rfl
    repeat ((first | refine HO.opA (krun_load1 rfl (by first | assumption | exact (Is.o (by assumption) _).trans rfl) (by first | assumption | rfl)) ?_ | refine HO.opA (krun_load_all rfl (by first | assumption | exact (Is.o (by assumption) _).trans rfl) (by first | assumption | rfl)) ?_ | refine HO.opA (krun_fa rfl) ?_ | refine HO.opA (krun_ia rfl rfl (by assumption)) ?_ | refine HO.opA (krun_mov (by repeat (first | exact Nth.zero | with_reducible apply Nth.succ))) ?_ | refine HO.opA (Lay.len (by assumption) rfl) ?_ | refine HO.opA (krun_box (by repeat (first | exact Nth.zero | with_reducible apply Nth.succ)) (by rfl)) ?_ | refine HO.gA rfl (krun_load1 rfl (by first | assumption | exact (Is.o (by assumption) _).trans rfl) (by first | assumption | rfl)) ?_ | refine HO.gA rfl (krun_load_all rfl (by first | assumption | exact (Is.o (by assumption) _).trans rfl) (by first | assumption | rfl)) ?_ | refine HO.gA rfl (krun_fa rfl) ?_ | refine HO.gA rfl (krun_ia rfl rfl (by assumption)) ?_ | refine HO.gA rfl (krun_mov (by repeat (first | exact Nth.zero | with_reducible apply Nth.succ))) ?_ | refine HD.opA0 (krun_load1 rfl (by first | assumption | exact (Is.o (by assumption) _).trans rfl) (by first | assumption | rfl)) (by decide) (by intro t ht; first | (simp at ht; done) | (simp at ht; subst ht; exact krun_load1 rfl (by first | assumption | exact (Is.o (by assumption) _).trans rfl) (by first | assumption | rfl)) | (simp at ht; rcases ht with rfl | rfl <;> exact krun_load1 rfl (by first | assumption | exact (Is.o (by assumption) _).trans rfl) (by first | assumption | rfl)) | (simp at ht; rcases ht with rfl | rfl | rfl <;> exact krun_load1 rfl (by first | assumption | exact (Is.o (by assumption) _).trans rfl) (by first | assumption | rfl))) ?_ | refine HD.opA0 (krun_load_all rfl (by first | assumption | exact (Is.o (by assumption) _).trans rfl) (by first | assumption | rfl)) (by decide) (by intro t ht; first | (simp at ht; done) | (simp at ht; subst ht; exact krun_load_all rfl (by first | assumption | exact (Is.o (by assumption) _).trans rfl) (by first | assumption | rfl)) | (simp at ht; rcases ht with rfl | rfl <;> exact krun_load_all rfl (by first | assumption | exact (Is.o (by assumption) _).trans rfl) (by first | assumption | rfl)) | (simp at ht; rcases ht with rfl | rfl | rfl <;> exact krun_load_all rfl (by first | assumption | exact (Is.o (by assumption) _).trans rfl) (by first | assumption | rfl))) ?_ | refine HD.opA0 (krun_fa rfl) (by decide) (fun t _ => krun_fa rfl) ?_ | refine HD.opA0 (krun_ia rfl rfl (by assumption)) (by decide) (fun t _ => krun_ia rfl rfl (by assumption)) ?_ | refine HD.opA0 (krun_mov (by repeat (first | exact Nth.zero | with_reducible apply Nth.succ))) (by decide) (fun t _ => krun_mov (by repeat (first | exact Nth.zero | with_reducible apply Nth.succ))) ?_ | refine HO.lq1 rfl ?_ | refine HO.lqn rfl ?_ | refine HD.lq1 rfl ?_ | refine HD.lqn rfl ?_ | refine HO.bsl1 rfl rfl rfl ?_ | refine HC.seq ?_ | refine HC.ops ?_ | refine HO.kx rfl ?_ | refine HO.g ?_ | refine HO.nil ?_ | refine HC.drw mixed ?_ | refine HD.kx rfl ?_ | refine HD.g ?_ | refine HD.nil ?_ | refine HC.blk ?_ | refine HC.cond ?_ | refine HC.skip ?_ | refine HC.exit ?_ | refine HC.ret ?_ | rw [fL_eq] | rw [fN_eq]); conv => whnf)
    have hI2 := Is.adds (clkO a) hI
    have hn : s.n = 3 + (kos (ks.take i)).length := by rw [hI.n]; simp [ccI]; omega
    have hcs : setAt (kcs 3 (ks.take i) ++ (ks.drop i).map kV) (0 + i * 1) (clkT s.n a).cells = kcs 3 (ks.take (i + 1)) ++ (ks.drop (i + 1)).map kV := by
      rw [(clkT_v _ _).2, take_at hgi, kcs_app, drop_at hgi, List.map_cons, hn]
      exact setAt_mid' (A := kcs 3 (ks.take i)) (B := [kV a]) (B' := [clkT (3 + (kos (ks.take i)).length) a]) (C := (ks.drop (i + 1)).map kV) (by simp) (by rw [kcs_len, List.length_take]; omega) rfl
    refine ⟨_, _, clk_den a hkl s, hDN_abs2 rfl ?_⟩
    have h2' : (s.adds (clkO a)).get 2 = some (.c (kcs 3 (ks.take i) ++ (ks.drop i).map kV) 0 (some 40)) := (hI2.o 2).trans rfl
    have hI3 := hI2.put (o' := .c (kcs 3 (ks.take (i + 1)) ++ (ks.drop (i + 1)).map kV) 0 (some 40)) h2'
    have e3 : (ccI v ks i ++ clkO a).set 2 (.c (kcs 3 (ks.take (i + 1)) ++ (ks.drop (i + 1)).map kV) 0 (some 40)) = ccI v ks (i + 1) := by
      simp only [ccI, take_at hgi, kos_app]
      simp [kos]
    rw [e3] at hI3
    generalize hs' : s.adds (clkO a) = s' at hI2 h2' hI3
    conv => whnf
    repeat ((first | refine HO.opA (krun_load1 rfl (by first | assumption | exact (Is.o (by assumption) _).trans rfl) (by first | assumption | rfl)) ?_ | refine HO.opA (krun_load_all rfl (by first | assumption | exact (Is.o (by assumption) _).trans rfl) (by first | assumption | rfl)) ?_ | refine HO.opA (krun_fa rfl) ?_ | refine HO.opA (krun_ia rfl rfl (by assumption)) ?_ | refine HO.opA (krun_mov (by repeat (first | exact Nth.zero | with_reducible apply Nth.succ))) ?_ | refine HO.opA (Lay.len (by assumption) rfl) ?_ | refine HO.opA (krun_box (by repeat (first | exact Nth.zero | with_reducible apply Nth.succ)) (by rfl)) ?_ | refine HO.gA rfl (krun_load1 rfl (by first | assumption | exact (Is.o (by assumption) _).trans rfl) (by first | assumption | rfl)) ?_ | refine HO.gA rfl (krun_load_all rfl (by first | assumption | exact (Is.o (by assumption) _).trans rfl) (by first | assumption | rfl)) ?_ | refine HO.gA rfl (krun_fa rfl) ?_ | refine HO.gA rfl (krun_ia rfl rfl (by assumption)) ?_ | refine HO.gA rfl (krun_mov (by repeat (first | exact Nth.zero | with_reducible apply Nth.succ))) ?_ | refine HD.opA0 (krun_load1 rfl (by first | assumption | exact (Is.o (by assumption) _).trans rfl) (by first | assumption | rfl)) (by decide) (by intro t ht; first | (simp at ht; done) | (simp at ht; subst ht; exact krun_load1 rfl (by first | assumption | exact (Is.o (by assumption) _).trans rfl) (by first | assumption | rfl)) | (simp at ht; rcases ht with rfl | rfl <;> exact krun_load1 rfl (by first | assumption | exact (Is.o (by assumption) _).trans rfl) (by first | assumption | rfl)) | (simp at ht; rcases ht with rfl | rfl | rfl <;> exact krun_load1 rfl (by first | assumption | exact (Is.o (by assumption) _).trans rfl) (by first | assumption | rfl))) ?_ | refine HD.opA0 (krun_load_all rfl (by first | assumption | exact (Is.o (by assumption) _).trans rfl) (by first | assumption | rfl)) (by decide) (by intro t ht; first | (simp at ht; done) | (simp at ht; subst ht; exact krun_load_all rfl (by first | assumption | exact (Is.o (by assumption) _).trans rfl) (by first | assumption | rfl)) | (simp at ht; rcases ht with rfl | rfl <;> exact krun_load_all rfl (by first | assumption | exact (Is.o (by assumption) _).trans rfl) (by first | assumption | rfl)) | (simp at ht; rcases ht with rfl | rfl | rfl <;> exact krun_load_all rfl (by first | assumption | exact (Is.o (by assumption) _).trans rfl) (by first | assumption | rfl))) ?_ | refine HD.opA0 (krun_fa rfl) (by decide) (fun t _ => krun_fa rfl) ?_ | refine HD.opA0 (krun_ia rfl rfl (by assumption)) (by decide) (fun t _ => krun_ia rfl rfl (by assumption)) ?_ | refine HD.opA0 (krun_mov (by repeat (first | exact Nth.zero | with_reducible apply Nth.succ))) (by decide) (fun t _ => krun_mov (by repeat (first | exact Nth.zero | with_reducible apply Nth.succ))) ?_ | refine HO.lq1 rfl ?_ | refine HO.lqn rfl ?_ | refine HD.lq1 rfl ?_ | refine HD.lqn rfl ?_ | refine HO.bsl1 rfl rfl rfl ?_ | refine HC.seq ?_ | refine HC.ops ?_ | refine HO.kx rfl ?_ | refine HO.g ?_ | refine HO.nil ?_ | refine HC.drw mixed ?_ | refine HD.kx rfl ?_ | refine HD.g ?_ | refine HD.nil ?_ | refine HC.blk ?_ | refine HC.cond ?_ | refine HC.skip ?_ | refine HC.exit ?_ | refine HC.ret ?_ | rw [fL_eq] | rw [fN_eq]); conv => whnf)
    refine HD.opA2 (krun_store (n := 1) (v := clkT s.n a) rfl (by rfl) h2' (clkT_v _ _).1 (by rw [(clkT_v _ _).2]; rfl) (Nat.zero_le _) (by simp [kcs_len]; omega) hcs) rfl ?_
    conv => whnf
    repeat ((first | refine HO.bsl1 rfl rfl rfl ?_ | refine HC.seq ?_ | refine HC.ops ?_ | refine HO.k ?_ | refine HO.g ?_ | refine HO.nil ?_ | refine HC.drw mixed ?_ | refine HD.k ?_ | refine HD.g ?_ | refine HD.nil ?_ | refine HC.blk ?_ | refine HC.cond ?_ | refine HC.skip ?_ | refine HC.exit ?_ | refine HC.ret ?_ | rw [fL_eq] | rw [fN_eq]); conv => whnf)
    rw [wrap_succ hlt (by omega)]
    intro hg'
    exact ⟨ks.length - (i + 1), fg [1, 2, 10, 11, 12] _, _, by omega, Wk.fg hg'.1 hg'.2, i + 1, hlt, rfl, rfl, hI3⟩
  · have hge : ks.length ≤ i := by rw [ltZ_eq] at h1; simpa using h1
    have h0 : s.get 0 = some (.c [.i .i64 v, .sl 1 2 0 ks.length none] 0 (some 37)) := (hI.o 0).trans rfl
    have h3 : s.get 1 = some (.c [.i .i64 0, .ns] 0 (some 37)) := (hI.o 1).trans rfl
    repeat ((first | refine HO.opA (krun_load1 rfl (by first | assumption | exact (Is.o (by assumption) _).trans rfl) (by first | assumption | rfl)) ?_ | refine HO.opA (krun_load_all rfl (by first | assumption | exact (Is.o (by assumption) _).trans rfl) (by first | assumption | rfl)) ?_ | refine HO.opA (krun_fa rfl) ?_ | refine HO.opA (krun_ia rfl rfl (by assumption)) ?_ | refine HO.opA (krun_mov (by repeat (first | exact Nth.zero | with_reducible apply Nth.succ))) ?_ | refine HO.opA (Lay.len (by assumption) rfl) ?_ | refine HO.opA (krun_box (by repeat (first | exact Nth.zero | with_reducible apply Nth.succ)) (by rfl)) ?_ | refine HO.gA rfl (krun_load1 rfl (by first | assumption | exact (Is.o (by assumption) _).trans rfl) (by first | assumption | rfl)) ?_ | refine HO.gA rfl (krun_load_all rfl (by first | assumption | exact (Is.o (by assumption) _).trans rfl) (by first | assumption | rfl)) ?_ | refine HO.gA rfl (krun_fa rfl) ?_ | refine HO.gA rfl (krun_ia rfl rfl (by assumption)) ?_ | refine HO.gA rfl (krun_mov (by repeat (first | exact Nth.zero | with_reducible apply Nth.succ))) ?_ | refine HD.opA0 (krun_load1 rfl (by first | assumption | exact (Is.o (by assumption) _).trans rfl) (by first | assumption | rfl)) (by decide) (by intro t ht; first | (simp at ht; done) | (simp at ht; subst ht; exact krun_load1 rfl (by first | assumption | exact (Is.o (by assumption) _).trans rfl) (by first | assumption | rfl)) | (simp at ht; rcases ht with rfl | rfl <;> exact krun_load1 rfl (by first | assumption | exact (Is.o (by assumption) _).trans rfl) (by first | assumption | rfl)) | (simp at ht; rcases ht with rfl | rfl | rfl <;> exact krun_load1 rfl (by first | assumption | exact (Is.o (by assumption) _).trans rfl) (by first | assumption | rfl))) ?_ | refine HD.opA0 (krun_load_all rfl (by first | assumption | exact (Is.o (by assumption) _).trans rfl) (by first | assumption | rfl)) (by decide) (by intro t ht; first | (simp at ht; done) | (simp at ht; subst ht; exact krun_load_all rfl (by first | assumption | exact (Is.o (by assumption) _).trans rfl) (by first | assumption | rfl)) | (simp at ht; rcases ht with rfl | rfl <;> exact krun_load_all rfl (by first | assumption | exact (Is.o (by assumption) _).trans rfl) (by first | assumption | rfl)) | (simp at ht; rcases ht with rfl | rfl | rfl <;> exact krun_load_all rfl (by first | assumption | exact (Is.o (by assumption) _).trans rfl) (by first | assumption | rfl))) ?_ | refine HD.opA0 (krun_fa rfl) (by decide) (fun t _ => krun_fa rfl) ?_ | refine HD.opA0 (krun_ia rfl rfl (by assumption)) (by decide) (fun t _ => krun_ia rfl rfl (by assumption)) ?_ | refine HD.opA0 (krun_mov (by repeat (first | exact Nth.zero | with_reducible apply Nth.succ))) (by decide) (fun t _ => krun_mov (by repeat (first | exact Nth.zero | with_reducible apply Nth.succ))) ?_ | refine HO.lq1 rfl ?_ | refine HO.lqn rfl ?_ | refine HD.lq1 rfl ?_ | refine HD.lqn rfl ?_ | refine HO.bsl1 rfl rfl rfl ?_ | refine HC.seq ?_ | refine HC.ops ?_ | refine HO.kx rfl ?_ | refine HO.g ?_ | refine HO.nil ?_ | refine HC.drw mixed ?_ | refine HD.kx rfl ?_ | refine HD.g ?_ | refine HD.nil ?_ | refine HC.blk ?_ | refine HC.cond ?_ | refine HC.skip ?_ | refine HC.exit ?_ | refine HC.ret ?_ | rw [fL_eq] | rw [fN_eq]); conv => whnf)
    refine HO.opA (krun_store (n := 2) (l := 1) (o := 0) (cs' := [.i .i64 v, .sl 1 2 0 ks.length none]) (v := .ag [.i .i64 v, .sl 1 2 0 ks.length none]) (by rfl) (by rfl) h3 rfl rfl (Nat.zero_le _) (by simp) rfl) ?_
    have hI4 := hI.put (o' := .c [.i .i64 v, .sl 1 2 0 ks.length none] 0 (some 37)) h3
    have e4 : (ccI v ks i).set 1 (.c [.i .i64 v, .sl 1 2 0 ks.length none] 0 (some 37)) = ccO 0 v ks := by
      simp only [ccI, ccO, List.take_of_length_le hge, List.drop_eq_nil_of_le hge, Nat.zero_add, List.map_nil, List.append_nil]
      subst hks
      rfl
    rw [e4] at hI4
    generalize s.put 1 (some (.c [.i .i64 v, .sl 1 2 0 ks.length none] 0 (some 37))) = s4 at hI4
    have h4 : s4.get 1 = some (.c [.i .i64 v, .sl 1 2 0 ks.length none] 0 (some 37)) := (hI4.o 1).trans (by rw [hks]; rfl)
    conv => whnf
    repeat ((first | refine HO.bsl1 rfl rfl rfl ?_ | refine HC.seq ?_ | refine HC.ops ?_ | refine HO.k ?_ | refine HO.g ?_ | refine HO.nil ?_ | refine HC.drw mixed ?_ | refine HD.k ?_ | refine HD.g ?_ | refine HD.nil ?_ | refine HC.blk ?_ | refine HC.cond ?_ | refine HC.skip ?_ | refine HC.exit ?_ | refine HC.ret ?_ | rw [fL_eq] | rw [fN_eq]); conv => whnf)
    exact finS_ret (.inl rfl) (resV_cn rfl h4 rfl) (by rw [ccT, hT]; exact .refl _) hI4.sub
/-- in any state -/
theorem kos_sh (d : Nat) (ks : List Kd) : ∀ (i : Nat) (o o2 : O), (kos ks)[i]? = some o → (kos ks)[i]? = some o2 → ShO d o o2 := fun i o o2 h1 h2 => by
  rw [h1] at h2; cases h2
  obtain ⟨k, -, hk⟩ := List.mem_flatMap.1 (List.mem_of_getElem? h1)
  cases k with
  | nil => simp [clkO] at hk
  | cons x r =>
    simp only [clkO, List.mem_singleton] at hk
    subst hk
    exact ⟨rfl, rfl, rfl, fun j hj => .nm _ (Nm.getD (insC_nm _) j)⟩
theorem ccO_len (d : Nat) (v : Int) (ks : List Kd) : (ccO d v ks).length = (ccO 0 v ks).length := by cases ks <;> simp [ccO]
theorem cc_den (v : Int) (ks : List Kd) (hl : ks.length ≤ 12) (hk : ∀ k ∈ ks, k.length ≤ 200) {s : St} (wf : ∀ l, s.n ≤ l → s.get l = none) : Den gt0 Tryd.prog 32 [pgV v ks] s (ccT s.n v ks) (s.adds (ccO s.n v ks)) := by
  have hb : Sh s.n (clksT (0 + 2) ks) (clksT (s.n + 2) ks) := by rw [Nat.zero_add]; exact clksT_sh _ _ _
  have hD : Den gt0 Tryd.prog 32 [pgV v ks] s0 (ccT 0 v ks) (Rf.s0.adds (ccO 0 v ks)) := by
    cases ks with
    | nil => exact cc_nil v
    | cons k0 kr => exact cc_cons v k0 kr hl hk
  refine Den.adds gnm0 (nm1 (pgV_nm _ _)) hD s wf (.ag _ _ rfl fun j hj => ?_) (ccO_len s.n v ks).symm (fun i o o2 h1 h2 => ?_)
  · match j, hj with
    | 0, _ => exact .nm _ (.i _ _)
    | 1, _ => exact hb
  · have two : ∀ j, j < 2 → Sh s.n (([.i .i64 v, clksT (0 + 2) ks] : List V).getD j .bad) (([.i .i64 v, clksT (s.n + 2) ks] : List V).getD j .bad) := fun j hj => by
      match j, hj with
      | 0, _ => exact .nm _ (.i _ _)
      | 1, _ => exact hb
    match i, h1, h2 with
    | 0, h1, h2 =>
      cases h1; cases h2
      exact ⟨rfl, rfl, rfl, two⟩
    | 1, h1, h2 =>
      cases h1; cases h2
      exact ⟨rfl, rfl, rfl, two⟩
    | i + 2, h1, h2 =>
      cases ks with
      | nil => simp [ccO] at h1
      | cons k r =>
        cases i with
        | zero =>
          cases h1; cases h2
          exact ⟨by rw [kcs_len, kcs_len], rfl, rfl, fun j hj => by
            have := kcs_sh (k :: r) s.n 3 j (by rw [kcs_len] at hj; exact hj)
            rwa [Nat.zero_add]⟩
        | succ i => exact kos_sh s.n (k :: r) i o o2 h1 h2
end Go.Proofs.YtklgkdehnaecnaaDoor
