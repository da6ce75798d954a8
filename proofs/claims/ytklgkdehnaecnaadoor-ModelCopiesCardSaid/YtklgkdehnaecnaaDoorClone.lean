/-
  Contracts: slices.Clone, what it makes being written later. No statement stands here.
-/
import Derived.Test.YtklgkdehnaecnaaDoorSame4
import Derived.Test.YtklgkdehnaecnaaDoorRfTb
set_option linter.all false
namespace Go.Proofs.YtklgkdehnaecnaaDoor
open Go Rf
set_option maxRecDepth 100000
set_option maxHeartbeats 400000

theorem chunks_one : ∀ l : List V, chunks false 1 l l.length = l
  | [] => rfl
  | x :: l => by show _ :: _ = _; rw [show ((x :: l).drop 1) = l from rfl, chunks_one l]; rfl
theorem room_le {n b : Nat} (h : n ≤ 200) (hb : b ≤ 64) : room n b = true := by
  have : (2 * n + 1024) * b ≤ (2 * 200 + 1024) * 64 := Nat.mul_le_mul (by omega) hb
  simp only [room, decide_eq_true_eq]; omega
theorem app_heap {e : List V} {s : St} {x y : Arg} {t sz bytes n : Nat} {ag : Bool} {cs : List V} (hx : x.ev e = .sl sz 0 0 0 (some 0)) (hs : s.get 0 = some (.c [] 0 (some t))) (hy : srcOf s sz (y.ev e) = some (n, cs)) (hn : n ≠ 0) (hr : room n bytes = true) :
    aop e s (.app t false ag sz bytes x y) = some (.sl sz s.n 0 n none, s.new (.c cs 0 (some t))) := by
  simp [aop, hx, hy, appV, hs, hn, hr]
def sOne (t : Nat) (cs : List V) : St := ⟨.n (.n .e (some (.c cs 0 (some t))) .e) (some (.c [] 0 (some t))) .e, 2, []⟩
def sNil (t : Nat) : St := ⟨.n .e (some (.c [] 0 (some t))) .e, 1, []⟩
theorem rd_nil {t sz : Nat} : Rd (sNil t) (.sl sz 0 0 0 (some 0)) (.pu sz [] .u) :=
  .sl sz 0 0 0 (some 0) [] 0 (some t) [] rfl (by simp) rfl (fun i hi => by omega) (fun i j hi hj => by omega)

def insC (k : List (Int × Int)) : List V := ((k.map insV).map V.cells).flatten
theorem insC_cons (x : Int × Int) (k : List (Int × Int)) : insC (x :: k) = .i .i64 x.1 :: .i .i64 x.2 :: insC k := rfl
theorem insC_nm {L : Nat → Prop} : ∀ (k : List (Int × Int)), ∀ v ∈ insC k, Nm L v
  | [], v, h => by simp [insC] at h
  | x :: k, v, h => by
    rw [insC_cons] at h
    simp only [List.mem_cons] at h
    rcases h with rfl | rfl | h
    · exact .i _ _
    · exact .i _ _
    · exact insC_nm k v h

theorem src_clk (s : St) (l : List (Int × Int)) : srcOf s 2 (kV l) = some (l.length, insC l) := by simp [srcOf, kV, insC]
theorem clk_nil : PDen gt0 Tryd.prog 59 [kV []] (kV []) := by
  refine PDen.empty1 (PDen.hcw gnm0 hF59 (nm1 .ns) (kV_nm []) ?_) (PDen.freeze (s1 := sNil 43) (v := .sl 2 0 0 0 (some 0)) gnm0 (nm1 (.pu _ _ _ (fun x hx => by simp at hx) (fun k hk => by cases hk))) (kV_nm []) (Den.hc hF59 ?_) rd_nil)
  · conv => whnf
    repeat ((first | refine HO.bsl1 rfl rfl rfl ?_ | refine HC.seq ?_ | refine HC.ops ?_ | refine HO.k ?_ | refine HO.g ?_ | refine HO.nil ?_ | refine HC.drw mixed ?_ | refine HD.k ?_ | refine HD.g ?_ | refine HD.nil ?_ | refine HC.blk ?_ | refine HC.cond ?_ | refine HC.skip ?_ | refine HC.exit ?_ | refine HC.ret ?_ | rw [fL_eq] | rw [fN_eq]); conv => whnf)
    exact .one (.ns 2)
  · conv => whnf
    repeat ((first | refine HO.bsl1 rfl rfl rfl ?_ | refine HC.seq ?_ | refine HC.ops ?_ | refine HO.k ?_ | refine HO.g ?_ | refine HO.nil ?_ | refine HC.drw mixed ?_ | refine HD.k ?_ | refine HD.g ?_ | refine HD.nil ?_ | refine HC.blk ?_ | refine HC.cond ?_ | refine HC.skip ?_ | refine HC.exit ?_ | refine HC.ret ?_ | rw [fL_eq] | rw [fN_eq]); conv => whnf)
    refine ⟨_, _, rfl, ?_⟩
    conv => whnf
    repeat ((first | refine HO.bsl1 rfl rfl rfl ?_ | refine HC.seq ?_ | refine HC.ops ?_ | refine HO.k ?_ | refine HO.g ?_ | refine HO.nil ?_ | refine HC.drw mixed ?_ | refine HD.k ?_ | refine HD.g ?_ | refine HD.nil ?_ | refine HC.blk ?_ | refine HC.cond ?_ | refine HC.skip ?_ | refine HC.exit ?_ | refine HC.ret ?_ | rw [fL_eq] | rw [fN_eq]); conv => whnf)
    exact ⟨.refl _, .refl _⟩
theorem clk_heap (l : List (Int × Int)) (h0 : l ≠ []) (hl : l.length ≤ 200) (s : St) : Den gt0 Tryd.prog 59 [kV l] s (.sl 2 s.n 0 l.length none) (s.new (.c (insC l) 0 (some 43))) := by
  refine Den.one gnm0 (nm1 (kV_nm _)) (insC_nm l) (k0 := 1) (s1 := sOne 43 (insC l)) rfl (Den.hc hF59 ?_) s
  obtain ⟨x, r, rfl⟩ := List.exists_cons_of_ne_nil h0
  conv => whnf
  repeat ((first | refine HO.bsl1 rfl rfl rfl ?_ | refine HC.seq ?_ | refine HC.ops ?_ | refine HO.k ?_ | refine HO.g ?_ | refine HO.nil ?_ | refine HC.drw mixed ?_ | refine HD.k ?_ | refine HD.g ?_ | refine HD.nil ?_ | refine HC.blk ?_ | refine HC.cond ?_ | refine HC.skip ?_ | refine HC.exit ?_ | refine HC.ret ?_ | rw [fL_eq] | rw [fN_eq]); conv => whnf)
  refine ⟨_, _, app_heap rfl rfl (src_clk _ (x :: r)) (by simp) (room_le hl (by omega)), ?_⟩
  conv => whnf
  repeat ((first | refine HO.bsl1 rfl rfl rfl ?_ | refine HC.seq ?_ | refine HC.ops ?_ | refine HO.k ?_ | refine HO.g ?_ | refine HO.nil ?_ | refine HC.drw mixed ?_ | refine HD.k ?_ | refine HD.g ?_ | refine HD.nil ?_ | refine HC.blk ?_ | refine HC.cond ?_ | refine HC.skip ?_ | refine HC.exit ?_ | refine HC.ret ?_ | rw [fL_eq] | rw [fN_eq]); conv => whnf)
  exact ⟨.refl _, .refl _⟩
/-- the object that it makes; what it tells -/
def clkO (l : List (Int × Int)) : List O := match l with
  | [] => []
  | _ :: _ => [.c (insC l) 0 (some 43)]
def clkT (d : Nat) (l : List (Int × Int)) : V := match l with
  | [] => kV []
  | _ :: _ => .sl 2 d 0 l.length none
theorem clkT_v (d : Nat) (l : List (Int × Int)) : (clkT d l).isVal = true ∧ (clkT d l).cells = [clkT d l] := by cases l <;> exact ⟨rfl, rfl⟩
theorem clkT_sh (d m : Nat) (l : List (Int × Int)) : Sh d (clkT m l) (clkT (d + m) l) := by
  cases l with
  | nil => exact .nm _ (kV_nm _)
  | cons x r => exact .sl _ _ _ _ _
theorem clk_den (l : List (Int × Int)) (hl : l.length ≤ 200) (s : St) : Den gt0 Tryd.prog 59 [kV l] s (clkT s.n l) (s.adds (clkO l)) := by
  cases l with
  | nil => exact clk_nil s
  | cons x r => exact clk_heap (x :: r) (by simp) hl s

def ksC (k : List (List (Int × Int))) : List V := ((k.map kV).map V.cells).flatten
theorem ksC_eq : ∀ (k : List (List (Int × Int))), ksC k = k.map kV
  | [] => rfl
  | x :: k => by
    have := ksC_eq k
    unfold ksC at this ⊢
    simp only [List.map_cons, List.flatten_cons, this]
    rfl
theorem ksC_nm {L : Nat → Prop} (k : List (List (Int × Int))) : ∀ v ∈ ksC k, Nm L v := fun v h => by
  rw [ksC_eq] at h
  obtain ⟨x, -, rfl⟩ := List.mem_map.1 h
  exact kV_nm x

theorem src_clks (s : St) (l : List (List (Int × Int))) : srcOf s 1 (ksV l) = some (l.length, ksC l) := by simp [srcOf, ksV, ksC]
theorem clks_nil : PDen gt0 Tryd.prog 58 [ksV []] (ksV []) := by
  refine PDen.empty1 (PDen.hcw gnm0 hF58 (nm1 .ns) (ksV_nm []) ?_) (PDen.freeze (s1 := sNil 40) (v := .sl 1 0 0 0 (some 0)) gnm0 (nm1 (.pu _ _ _ (fun x hx => by simp at hx) (fun k hk => by cases hk))) (ksV_nm []) (Den.hc hF58 ?_) rd_nil)
  · conv => whnf
    repeat ((first | refine HO.bsl1 rfl rfl rfl ?_ | refine HC.seq ?_ | refine HC.ops ?_ | refine HO.k ?_ | refine HO.g ?_ | refine HO.nil ?_ | refine HC.drw mixed ?_ | refine HD.k ?_ | refine HD.g ?_ | refine HD.nil ?_ | refine HC.blk ?_ | refine HC.cond ?_ | refine HC.skip ?_ | refine HC.exit ?_ | refine HC.ret ?_ | rw [fL_eq] | rw [fN_eq]); conv => whnf)
    exact .one (.ns 1)
  · conv => whnf
    repeat ((first | refine HO.bsl1 rfl rfl rfl ?_ | refine HC.seq ?_ | refine HC.ops ?_ | refine HO.k ?_ | refine HO.g ?_ | refine HO.nil ?_ | refine HC.drw mixed ?_ | refine HD.k ?_ | refine HD.g ?_ | refine HD.nil ?_ | refine HC.blk ?_ | refine HC.cond ?_ | refine HC.skip ?_ | refine HC.exit ?_ | refine HC.ret ?_ | rw [fL_eq] | rw [fN_eq]); conv => whnf)
    refine ⟨_, _, rfl, ?_⟩
    conv => whnf
    repeat ((first | refine HO.bsl1 rfl rfl rfl ?_ | refine HC.seq ?_ | refine HC.ops ?_ | refine HO.k ?_ | refine HO.g ?_ | refine HO.nil ?_ | refine HC.drw mixed ?_ | refine HD.k ?_ | refine HD.g ?_ | refine HD.nil ?_ | refine HC.blk ?_ | refine HC.cond ?_ | refine HC.skip ?_ | refine HC.exit ?_ | refine HC.ret ?_ | rw [fL_eq] | rw [fN_eq]); conv => whnf)
    exact ⟨.refl _, .refl _⟩
theorem clks_heap (l : List (List (Int × Int))) (h0 : l ≠ []) (hl : l.length ≤ 200) (s : St) : Den gt0 Tryd.prog 58 [ksV l] s (.sl 1 s.n 0 l.length none) (s.new (.c (ksC l) 0 (some 40))) := by
  refine Den.one gnm0 (nm1 (ksV_nm _)) (ksC_nm l) (k0 := 1) (s1 := sOne 40 (ksC l)) rfl (Den.hc hF58 ?_) s
  obtain ⟨x, r, rfl⟩ := List.exists_cons_of_ne_nil h0
  conv => whnf
  repeat ((first | refine HO.bsl1 rfl rfl rfl ?_ | refine HC.seq ?_ | refine HC.ops ?_ | refine HO.k ?_ | refine HO.g ?_ | refine HO.nil ?_ | refine HC.drw mixed ?_ | refine HD.k ?_ | refine HD.g ?_ | refine HD.nil ?_ | refine HC.blk ?_ | refine HC.cond ?_ | refine HC.skip ?_ | refine HC.exit ?_ | refine HC.ret ?_ | rw [fL_eq] | rw [fN_eq]); conv => whnf)
  refine ⟨_, _, app_heap rfl rfl (src_clks _ (x :: r)) (by simp) (room_le hl (by omega)), ?_⟩
  conv => whnf
  repeat ((first | refine HO.bsl1 rfl rfl rfl ?_ | refine HC.seq ?_ | refine HC.ops ?_ | refine HO.k ?_ | refine HO.g ?_ | refine HO.nil ?_ | refine HC.drw mixed ?_ | refine HD.k ?_ | refine HD.g ?_ | refine HD.nil ?_ | refine HC.blk ?_ | refine HC.cond ?_ | refine HC.skip ?_ | refine HC.exit ?_ | refine HC.ret ?_ | rw [fL_eq] | rw [fN_eq]); conv => whnf)
  exact ⟨.refl _, .refl _⟩
/-- the object that it makes; what it tells -/
def clksO (l : List (List (Int × Int))) : List O := match l with
  | [] => []
  | _ :: _ => [.c (ksC l) 0 (some 40)]
def clksT (d : Nat) (l : List (List (Int × Int))) : V := match l with
  | [] => ksV []
  | _ :: _ => .sl 1 d 0 l.length none
theorem clksT_v (d : Nat) (l : List (List (Int × Int))) : (clksT d l).isVal = true ∧ (clksT d l).cells = [clksT d l] := by cases l <;> exact ⟨rfl, rfl⟩
theorem clksT_sh (d m : Nat) (l : List (List (Int × Int))) : Sh d (clksT m l) (clksT (d + m) l) := by
  cases l with
  | nil => exact .nm _ (ksV_nm _)
  | cons x r => exact .sl _ _ _ _ _
theorem clks_den (l : List (List (Int × Int))) (hl : l.length ≤ 200) (s : St) : Den gt0 Tryd.prog 58 [ksV l] s (clksT s.n l) (s.adds (clksO l)) := by
  cases l with
  | nil => exact clks_nil s
  | cons x r => exact clks_heap (x :: r) (by simp) hl s

def vsC (k : List Int) : List V := ((k.map iV).map V.cells).flatten
theorem vsC_eq : ∀ (k : List Int), vsC k = k.map iV
  | [] => rfl
  | x :: k => by
    have := vsC_eq k
    unfold vsC at this ⊢
    simp only [List.map_cons, List.flatten_cons, this]
    rfl
theorem vsC_nm {L : Nat → Prop} (k : List Int) : ∀ v ∈ vsC k, Nm L v := fun v h => by
  rw [vsC_eq] at h
  obtain ⟨x, -, rfl⟩ := List.mem_map.1 h
  exact .i _ _

theorem src_clv (s : St) (l : List (Int)) : srcOf s 1 (vsV l) = some (l.length, vsC l) := by simp [srcOf, vsV, vsC]
theorem clv_nil : PDen gt0 Tryd.prog 33 [vsV []] (vsV []) := by
  refine PDen.empty1 (PDen.hcw gnm0 hF33 (nm1 .ns) (vsV_nm []) ?_) (PDen.freeze (s1 := sNil 2) (v := .sl 1 0 0 0 (some 0)) gnm0 (nm1 (.pu _ _ _ (fun x hx => by simp at hx) (fun k hk => by cases hk))) (vsV_nm []) (Den.hc hF33 ?_) rd_nil)
  · conv => whnf
    repeat ((first | refine HO.bsl1 rfl rfl rfl ?_ | refine HC.seq ?_ | refine HC.ops ?_ | refine HO.k ?_ | refine HO.g ?_ | refine HO.nil ?_ | refine HC.drw mixed ?_ | refine HD.k ?_ | refine HD.g ?_ | refine HD.nil ?_ | refine HC.blk ?_ | refine HC.cond ?_ | refine HC.skip ?_ | refine HC.exit ?_ | refine HC.ret ?_ | rw [fL_eq] | rw [fN_eq]); conv => whnf)
    exact .one (.ns 1)
  · conv => whnf
    repeat ((first | refine HO.bsl1 rfl rfl rfl ?_ | refine HC.seq ?_ | refine HC.ops ?_ | refine HO.k ?_ | refine HO.g ?_ | refine HO.nil ?_ | refine HC.drw mixed ?_ | refine HD.k ?_ | refine HD.g ?_ | refine HD.nil ?_ | refine HC.blk ?_ | refine HC.cond ?_ | refine HC.skip ?_ | refine HC.exit ?_ | refine HC.ret ?_ | rw [fL_eq] | rw [fN_eq]); conv => whnf)
    refine ⟨_, _, rfl, ?_⟩
    conv => whnf
    repeat ((first | refine HO.bsl1 rfl rfl rfl ?_ | refine HC.seq ?_ | refine HC.ops ?_ | refine HO.k ?_ | refine HO.g ?_ | refine HO.nil ?_ | refine HC.drw mixed ?_ | refine HD.k ?_ | refine HD.g ?_ | refine HD.nil ?_ | refine HC.blk ?_ | refine HC.cond ?_ | refine HC.skip ?_ | refine HC.exit ?_ | refine HC.ret ?_ | rw [fL_eq] | rw [fN_eq]); conv => whnf)
    exact ⟨.refl _, .refl _⟩
theorem clv_heap (l : List (Int)) (h0 : l ≠ []) (hl : l.length ≤ 200) (s : St) : Den gt0 Tryd.prog 33 [vsV l] s (.sl 1 s.n 0 l.length none) (s.new (.c (vsC l) 0 (some 2))) := by
  refine Den.one gnm0 (nm1 (vsV_nm _)) (vsC_nm l) (k0 := 1) (s1 := sOne 2 (vsC l)) rfl (Den.hc hF33 ?_) s
  obtain ⟨x, r, rfl⟩ := List.exists_cons_of_ne_nil h0
  conv => whnf
  repeat ((first | refine HO.bsl1 rfl rfl rfl ?_ | refine HC.seq ?_ | refine HC.ops ?_ | refine HO.k ?_ | refine HO.g ?_ | refine HO.nil ?_ | refine HC.drw mixed ?_ | refine HD.k ?_ | refine HD.g ?_ | refine HD.nil ?_ | refine HC.blk ?_ | refine HC.cond ?_ | refine HC.skip ?_ | refine HC.exit ?_ | refine HC.ret ?_ | rw [fL_eq] | rw [fN_eq]); conv => whnf)
  refine ⟨_, _, app_heap rfl rfl (src_clv _ (x :: r)) (by simp) (room_le hl (by omega)), ?_⟩
  conv => whnf
  repeat ((first | refine HO.bsl1 rfl rfl rfl ?_ | refine HC.seq ?_ | refine HC.ops ?_ | refine HO.k ?_ | refine HO.g ?_ | refine HO.nil ?_ | refine HC.drw mixed ?_ | refine HD.k ?_ | refine HD.g ?_ | refine HD.nil ?_ | refine HC.blk ?_ | refine HC.cond ?_ | refine HC.skip ?_ | refine HC.exit ?_ | refine HC.ret ?_ | rw [fL_eq] | rw [fN_eq]); conv => whnf)
  exact ⟨.refl _, .refl _⟩
/-- the object that it makes; what it tells -/
def clvO (l : List (Int)) : List O := match l with
  | [] => []
  | _ :: _ => [.c (vsC l) 0 (some 2)]
def clvT (d : Nat) (l : List (Int)) : V := match l with
  | [] => vsV []
  | _ :: _ => .sl 1 d 0 l.length none
theorem clvT_v (d : Nat) (l : List (Int)) : (clvT d l).isVal = true ∧ (clvT d l).cells = [clvT d l] := by cases l <;> exact ⟨rfl, rfl⟩
theorem clvT_sh (d m : Nat) (l : List (Int)) : Sh d (clvT m l) (clvT (d + m) l) := by
  cases l with
  | nil => exact .nm _ (vsV_nm _)
  | cons x r => exact .sl _ _ _ _ _
theorem clv_den (l : List (Int)) (hl : l.length ≤ 200) (s : St) : Den gt0 Tryd.prog 33 [vsV l] s (clvT s.n l) (s.adds (clvO l)) := by
  cases l with
  | nil => exact clv_nil s
  | cons x r => exact clv_heap (x :: r) (by simp) hl s

def prC (p : Pr) : List V := [.i .i64 p.1.1, ksV p.1.2, vsV p.2.1, .i .i64 p.2.2]
def psC (k : List Pr) : List V := ((k.map prV).map V.cells).flatten
theorem psC_cons (x : Pr) (k : List Pr) : psC (x :: k) = prC x ++ psC k := rfl
theorem psC_nm {L : Nat → Prop} : ∀ (k : List Pr), ∀ v ∈ psC k, Nm L v
  | [], v, h => by simp [psC] at h
  | x :: k, v, h => by
    rw [psC_cons] at h
    rcases List.mem_append.1 h with h | h
    · simp only [prC, List.mem_cons, List.not_mem_nil, or_false] at h
      rcases h with rfl | rfl | rfl | rfl
      · exact .i _ _
      · exact ksV_nm _
      · exact vsV_nm _
      · exact .i _ _
    · exact psC_nm k v h

theorem src_clp (s : St) (l : List (Pr)) : srcOf s 4 (psV l) = some (l.length, psC l) := by simp [srcOf, psV, psC]
theorem clp_nil : PDen gt0 Tryd.prog 30 [psV []] (psV []) := by
  refine PDen.empty1 (PDen.hcw gnm0 hF30 (nm1 .ns) (psV_nm []) ?_) (PDen.freeze (s1 := sNil 39) (v := .sl 4 0 0 0 (some 0)) gnm0 (nm1 (.pu _ _ _ (fun x hx => by simp at hx) (fun k hk => by cases hk))) (psV_nm []) (Den.hc hF30 ?_) rd_nil)
  · conv => whnf
    repeat ((first | refine HO.bsl1 rfl rfl rfl ?_ | refine HC.seq ?_ | refine HC.ops ?_ | refine HO.k ?_ | refine HO.g ?_ | refine HO.nil ?_ | refine HC.drw mixed ?_ | refine HD.k ?_ | refine HD.g ?_ | refine HD.nil ?_ | refine HC.blk ?_ | refine HC.cond ?_ | refine HC.skip ?_ | refine HC.exit ?_ | refine HC.ret ?_ | rw [fL_eq] | rw [fN_eq]); conv => whnf)
    exact .one (.ns 4)
  · conv => whnf
    repeat ((first | refine HO.bsl1 rfl rfl rfl ?_ | refine HC.seq ?_ | refine HC.ops ?_ | refine HO.k ?_ | refine HO.g ?_ | refine HO.nil ?_ | refine HC.drw mixed ?_ | refine HD.k ?_ | refine HD.g ?_ | refine HD.nil ?_ | refine HC.blk ?_ | refine HC.cond ?_ | refine HC.skip ?_ | refine HC.exit ?_ | refine HC.ret ?_ | rw [fL_eq] | rw [fN_eq]); conv => whnf)
    refine ⟨_, _, rfl, ?_⟩
    conv => whnf
    repeat ((first | refine HO.bsl1 rfl rfl rfl ?_ | refine HC.seq ?_ | refine HC.ops ?_ | refine HO.k ?_ | refine HO.g ?_ | refine HO.nil ?_ | refine HC.drw mixed ?_ | refine HD.k ?_ | refine HD.g ?_ | refine HD.nil ?_ | refine HC.blk ?_ | refine HC.cond ?_ | refine HC.skip ?_ | refine HC.exit ?_ | refine HC.ret ?_ | rw [fL_eq] | rw [fN_eq]); conv => whnf)
    exact ⟨.refl _, .refl _⟩
theorem clp_heap (l : List (Pr)) (h0 : l ≠ []) (hl : l.length ≤ 200) (s : St) : Den gt0 Tryd.prog 30 [psV l] s (.sl 4 s.n 0 l.length none) (s.new (.c (psC l) 0 (some 39))) := by
  refine Den.one gnm0 (nm1 (psV_nm _)) (psC_nm l) (k0 := 1) (s1 := sOne 39 (psC l)) rfl (Den.hc hF30 ?_) s
  obtain ⟨x, r, rfl⟩ := List.exists_cons_of_ne_nil h0
  conv => whnf
  repeat ((first | refine HO.bsl1 rfl rfl rfl ?_ | refine HC.seq ?_ | refine HC.ops ?_ | refine HO.k ?_ | refine HO.g ?_ | refine HO.nil ?_ | refine HC.drw mixed ?_ | refine HD.k ?_ | refine HD.g ?_ | refine HD.nil ?_ | refine HC.blk ?_ | refine HC.cond ?_ | refine HC.skip ?_ | refine HC.exit ?_ | refine HC.ret ?_ | rw [fL_eq] | rw [fN_eq]); conv => whnf)
  refine ⟨_, _, app_heap rfl rfl (src_clp _ (x :: r)) (by simp) (room_le hl (by omega)), ?_⟩
  conv => whnf
  repeat ((first | refine HO.bsl1 rfl rfl rfl ?_ | refine HC.seq ?_ | refine HC.ops ?_ | refine HO.k ?_ | refine HO.g ?_ | refine HO.nil ?_ | refine HC.drw mixed ?_ | refine HD.k ?_ | refine HD.g ?_ | refine HD.nil ?_ | refine HC.blk ?_ | refine HC.cond ?_ | refine HC.skip ?_ | refine HC.exit ?_ | refine HC.ret ?_ | rw [fL_eq] | rw [fN_eq]); conv => whnf)
  exact ⟨.refl _, .refl _⟩
/-- the object that it makes; what it tells -/
def clpO (l : List (Pr)) : List O := match l with
  | [] => []
  | _ :: _ => [.c (psC l) 0 (some 39)]
def clpT (d : Nat) (l : List (Pr)) : V := match l with
  | [] => psV []
  | _ :: _ => .sl 4 d 0 l.length none
theorem clpT_v (d : Nat) (l : List (Pr)) : (clpT d l).isVal = true ∧ (clpT d l).cells = [clpT d l] := by cases l <;> exact ⟨rfl, rfl⟩
theorem clpT_sh (d m : Nat) (l : List (Pr)) : Sh d (clpT m l) (clpT (d + m) l) := by
  cases l with
  | nil => exact .nm _ (psV_nm _)
  | cons x r => exact .sl _ _ _ _ _
theorem clp_den (l : List (Pr)) (hl : l.length ≤ 200) (s : St) : Den gt0 Tryd.prog 30 [psV l] s (clpT s.n l) (s.adds (clpO l)) := by
  cases l with
  | nil => exact clp_nil s
  | cons x r => exact clp_heap (x :: r) (by simp) hl s

def evC (e : Ev) : List V := [.i .i64 e.1, .i .i64 e.2.1, .i .i64 e.2.2.1, .i .i64 e.2.2.2.1, .i .i64 e.2.2.2.2.1, .i .i64 e.2.2.2.2.2]
def fsC (k : List Ev) : List V := ((k.map evV).map V.cells).flatten
theorem fsC_cons (x : Ev) (k : List Ev) : fsC (x :: k) = evC x ++ fsC k := rfl
theorem fsC_nm {L : Nat → Prop} : ∀ (k : List Ev), ∀ v ∈ fsC k, Nm L v
  | [], v, h => by simp [fsC] at h
  | x :: k, v, h => by
    rw [fsC_cons] at h
    rcases List.mem_append.1 h with h | h
    · simp only [evC, List.mem_cons, List.not_mem_nil, or_false] at h
      rcases h with rfl | rfl | rfl | rfl | rfl | rfl <;> exact .i _ _
    · exact fsC_nm k v h

theorem src_clf (s : St) (l : List (Ev)) : srcOf s 6 (fsV l) = some (l.length, fsC l) := by simp [srcOf, fsV, fsC]
theorem clf_nil : PDen gt0 Tryd.prog 31 [fsV []] (fsV []) := by
  refine PDen.empty1 (PDen.hcw gnm0 hF31 (nm1 .ns) (fsV_nm []) ?_) (PDen.freeze (s1 := sNil 47) (v := .sl 6 0 0 0 (some 0)) gnm0 (nm1 (.pu _ _ _ (fun x hx => by simp at hx) (fun k hk => by cases hk))) (fsV_nm []) (Den.hc hF31 ?_) rd_nil)
  · conv => whnf
    repeat ((first | refine HO.bsl1 rfl rfl rfl ?_ | refine HC.seq ?_ | refine HC.ops ?_ | refine HO.k ?_ | refine HO.g ?_ | refine HO.nil ?_ | refine HC.drw mixed ?_ | refine HD.k ?_ | refine HD.g ?_ | refine HD.nil ?_ | refine HC.blk ?_ | refine HC.cond ?_ | refine HC.skip ?_ | refine HC.exit ?_ | refine HC.ret ?_ | rw [fL_eq] | rw [fN_eq]); conv => whnf)
    exact .one (.ns 6)
  · conv => whnf
    repeat ((first | refine HO.bsl1 rfl rfl rfl ?_ | refine HC.seq ?_ | refine HC.ops ?_ | refine HO.k ?_ | refine HO.g ?_ | refine HO.nil ?_ | refine HC.drw mixed ?_ | refine HD.k ?_ | refine HD.g ?_ | refine HD.nil ?_ | refine HC.blk ?_ | refine HC.cond ?_ | refine HC.skip ?_ | refine HC.exit ?_ | refine HC.ret ?_ | rw [fL_eq] | rw [fN_eq]); conv => whnf)
    refine ⟨_, _, rfl, ?_⟩
    conv => whnf
    repeat ((first | refine HO.bsl1 rfl rfl rfl ?_ | refine HC.seq ?_ | refine HC.ops ?_ | refine HO.k ?_ | refine HO.g ?_ | refine HO.nil ?_ | refine HC.drw mixed ?_ | refine HD.k ?_ | refine HD.g ?_ | refine HD.nil ?_ | refine HC.blk ?_ | refine HC.cond ?_ | refine HC.skip ?_ | refine HC.exit ?_ | refine HC.ret ?_ | rw [fL_eq] | rw [fN_eq]); conv => whnf)
    exact ⟨.refl _, .refl _⟩
theorem clf_heap (l : List (Ev)) (h0 : l ≠ []) (hl : l.length ≤ 200) (s : St) : Den gt0 Tryd.prog 31 [fsV l] s (.sl 6 s.n 0 l.length none) (s.new (.c (fsC l) 0 (some 47))) := by
  refine Den.one gnm0 (nm1 (fsV_nm _)) (fsC_nm l) (k0 := 1) (s1 := sOne 47 (fsC l)) rfl (Den.hc hF31 ?_) s
  obtain ⟨x, r, rfl⟩ := List.exists_cons_of_ne_nil h0
  conv => whnf
  repeat ((first | refine HO.bsl1 rfl rfl rfl ?_ | refine HC.seq ?_ | refine HC.ops ?_ | refine HO.k ?_ | refine HO.g ?_ | refine HO.nil ?_ | refine HC.drw mixed ?_ | refine HD.k ?_ | refine HD.g ?_ | refine HD.nil ?_ | refine HC.blk ?_ | refine HC.cond ?_ | refine HC.skip ?_ | refine HC.exit ?_ | refine HC.ret ?_ | rw [fL_eq] | rw [fN_eq]); conv => whnf)
  refine ⟨_, _, app_heap rfl rfl (src_clf _ (x :: r)) (by simp) (room_le hl (by omega)), ?_⟩
  conv => whnf
  repeat ((first | refine HO.bsl1 rfl rfl rfl ?_ | refine HC.seq ?_ | refine HC.ops ?_ | refine HO.k ?_ | refine HO.g ?_ | refine HO.nil ?_ | refine HC.drw mixed ?_ | refine HD.k ?_ | refine HD.g ?_ | refine HD.nil ?_ | refine HC.blk ?_ | refine HC.cond ?_ | refine HC.skip ?_ | refine HC.exit ?_ | refine HC.ret ?_ | rw [fL_eq] | rw [fN_eq]); conv => whnf)
  exact ⟨.refl _, .refl _⟩
/-- the object that it makes; what it tells -/
def clfO (l : List (Ev)) : List O := match l with
  | [] => []
  | _ :: _ => [.c (fsC l) 0 (some 47)]
def clfT (d : Nat) (l : List (Ev)) : V := match l with
  | [] => fsV []
  | _ :: _ => .sl 6 d 0 l.length none
theorem clfT_v (d : Nat) (l : List (Ev)) : (clfT d l).isVal = true ∧ (clfT d l).cells = [clfT d l] := by cases l <;> exact ⟨rfl, rfl⟩
theorem clfT_sh (d m : Nat) (l : List (Ev)) : Sh d (clfT m l) (clfT (d + m) l) := by
  cases l with
  | nil => exact .nm _ (fsV_nm _)
  | cons x r => exact .sl _ _ _ _ _
theorem clf_den (l : List (Ev)) (hl : l.length ≤ 200) (s : St) : Den gt0 Tryd.prog 31 [fsV l] s (clfT s.n l) (s.adds (clfO l)) := by
  cases l with
  | nil => exact clf_nil s
  | cons x r => exact clf_heap (x :: r) (by simp) hl s

end Go.Proofs.YtklgkdehnaecnaaDoor
