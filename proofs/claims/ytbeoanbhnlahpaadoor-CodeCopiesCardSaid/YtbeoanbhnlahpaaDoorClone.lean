/-
  Contracts: a copy shares nothing. No statement stands here.
-/
import Derived.Test.YtbeoanbhnlahpaaDoorSame
set_option linter.all false
namespace Go.Proofs.YtbeoanbhnlahpaaDoor
open Go Rf
set_option maxRecDepth 100000
set_option maxHeartbeats 400000

def f40m : Rf.F := { np := 1, nt := 8, body := C.seq (C.ops [{ d := some 2, g := none, k := K.a (A.mov (Arg.c (V.ns))) }]) (C.seq (C.seq (C.ops [{ d := some 3, g := none, k := K.a (A.mov (Arg.t 0)) }, { d := some 4, g := none, k := K.a (A.eql false (EK.s) (Arg.t 3) (Arg.c (V.ns))) }]) (C.cond (Arg.t 4) (C.seq (C.ops [{ d := some 2, g := none, k := K.a (A.mov (Arg.c (V.ns))) }]) (C.ret)) (C.skip))) (C.seq (C.ops [{ d := some 5, g := none, k := K.a (A.bsl 27 false false 0 1 [V.ns] []) }, { d := some 6, g := none, k := K.a (A.mov (Arg.t 0)) }, { d := some 7, g := none, k := K.a (A.app 27 false false 1 24 (Arg.t 5) (Arg.t 6)) }, { d := some 2, g := none, k := K.a (A.mov (Arg.t 7)) }]) (C.ret))), res := [Rs.t 2] }
theorem hF40m : Rf.cF gt0 Tryd.prog (fun _ _ => false) 40 = some f40m := by kernel_rfl
def f41m : Rf.F := { np := 1, nt := 8, body := C.seq (C.ops [{ d := some 2, g := none, k := K.a (A.mov (Arg.c (V.ns))) }]) (C.seq (C.seq (C.ops [{ d := some 3, g := none, k := K.a (A.mov (Arg.t 0)) }, { d := some 4, g := none, k := K.a (A.eql false (EK.s) (Arg.t 3) (Arg.c (V.ns))) }]) (C.cond (Arg.t 4) (C.seq (C.ops [{ d := some 2, g := none, k := K.a (A.mov (Arg.c (V.ns))) }]) (C.ret)) (C.skip))) (C.seq (C.ops [{ d := some 5, g := none, k := K.a (A.bsl 29 false true 0 2 [V.i (Go.IntKind.i64) 0, V.i (Go.IntKind.i64) 0] []) }, { d := some 6, g := none, k := K.a (A.mov (Arg.t 0)) }, { d := some 7, g := none, k := K.a (A.app 29 false true 2 16 (Arg.t 5) (Arg.t 6)) }, { d := some 2, g := none, k := K.a (A.mov (Arg.t 7)) }]) (C.ret))), res := [Rs.t 2] }
theorem hF41m : Rf.cF gt0 Tryd.prog (fun _ _ => false) 41 = some f41m := by kernel_rfl

def insC (k : Kd) : List V := ((k.map insV).map V.cells).flatten
theorem insC_cons (x : Int × Int) (k : Kd) : insC (x :: k) = .i .i64 x.1 :: .i .i64 x.2 :: insC k := rfl
theorem chunks_ins : ∀ k : Kd, chunks true 2 (insC k) k.length = k.map insV
  | [] => rfl
  | x :: k => by rw [insC_cons, List.length_cons, List.map_cons]; show _ :: _ = _; rw [← chunks_ins k]; rfl
theorem room_le {n b : Nat} (h : n ≤ 200) (hb : b ≤ 24) : room n b = true := by
  have : (2 * n + 1024) * b ≤ (2 * 200 + 1024) * 24 := Nat.mul_le_mul (by omega) hb
  simp only [room, decide_eq_true_eq]; omega
theorem chunks_one : ∀ l : List V, chunks false 1 l l.length = l
  | [] => rfl
  | x :: l => by show _ :: _ = _; rw [show ((x :: l).drop 1) = l from rfl, chunks_one l]; rfl

theorem app_pure {e : List V} {s : St} {x y : Arg} {t sz bytes n : Nat} {ag : Bool} {cs : List V} (hx : x.ev e = .pu sz [] (.x 0)) (hy : srcOf s sz (y.ev e) = some (n, cs)) (hn : n ≠ 0) (hr : room n bytes = true) :
    aop e s (.app t true ag sz bytes x y) = some (.pu sz (chunks ag sz cs n) (.t s.n), s.new (.t (n * sz))) := by
  simp [aop, hx, hy, appV, hn, hr]
theorem app_heap {e : List V} {s : St} {x y : Arg} {t sz bytes n : Nat} {ag : Bool} {cs : List V} (hx : x.ev e = .sl sz 0 0 0 (some 0)) (hs : s.get 0 = some (.c [] 0 (some t))) (hy : srcOf s sz (y.ev e) = some (n, cs)) (hn : n ≠ 0) (hr : room n bytes = true) :
    aop e s (.app t false ag sz bytes x y) = some (.sl sz s.n 0 n none, s.new (.c cs 0 (some t))) := by
  simp [aop, hx, hy, appV, hs, hn, hr]
theorem src_k (s : St) (k : Kd) : srcOf s 2 (kV k) = some (k.length, insC k) := by simp [srcOf, kV, insC]
theorem cells_k (ks : List Kd) : ((ks.map kV).map V.cells).flatten = ks.map kV := by
  induction ks with
  | nil => rfl
  | cons k r ih => simp only [List.map_cons, List.flatten_cons, ih]; rfl
theorem src_ks (s : St) (ks : List Kd) : srcOf s 1 (ksV ks) = some (ks.length, ks.map kV) := by simp only [srcOf, ksV, if_true, List.length_map, cells_k]

theorem cloneK_den (k : Kd) (hl : k.length ≤ 200) : PDen gt0 Tryd.prog 41 [kV k] (kV k) := by
  cases k with
  | nil =>
    refine PDen.empty1 (PDen.hcw gnm0 hF41 (nm1 .ns) (kV_nm []) ?_) (PDen.hcw gnm0 hF41 (nm1 (.pu _ _ _ (fun x hx => by simp at hx) (fun k hk => by cases hk))) (kV_nm []) ?_)
    · conv => whnf
      repeat ((first | refine HC.seq ?_ | refine HC.ops ?_ | refine HO.k ?_ | refine HO.g ?_ | refine HO.nil ?_ | refine HC.drw mixed ?_ | refine HD.k ?_ | refine HD.g ?_ | refine HD.nil ?_ | refine HC.blk ?_ | refine HC.cond ?_ | refine HC.skip ?_ | refine HC.exit ?_ | refine HC.ret ?_ | rw [fL_eq]); conv => whnf)
      exact .one (.ns 2)
    · conv => whnf
      repeat ((first | refine HC.seq ?_ | refine HC.ops ?_ | refine HO.k ?_ | refine HO.g ?_ | refine HO.nil ?_ | refine HC.drw mixed ?_ | refine HD.k ?_ | refine HD.g ?_ | refine HD.nil ?_ | refine HC.blk ?_ | refine HC.cond ?_ | refine HC.skip ?_ | refine HC.exit ?_ | refine HC.ret ?_ | rw [fL_eq]); conv => whnf)
      refine ⟨_, _, rfl, ?_⟩
      conv => whnf
      repeat ((first | refine HC.seq ?_ | refine HC.ops ?_ | refine HO.k ?_ | refine HO.g ?_ | refine HO.nil ?_ | refine HC.drw mixed ?_ | refine HD.k ?_ | refine HD.g ?_ | refine HD.nil ?_ | refine HC.blk ?_ | refine HC.cond ?_ | refine HC.skip ?_ | refine HC.exit ?_ | refine HC.ret ?_ | rw [fL_eq]); conv => whnf)
      exact .one (.pu 2 [] _)
  | cons x r =>
    refine PDen.hcw gnm0 hF41 (nm1 (kV_nm _)) (kV_nm _) ?_
    conv => whnf
    repeat ((first | refine HC.seq ?_ | refine HC.ops ?_ | refine HO.k ?_ | refine HO.g ?_ | refine HO.nil ?_ | refine HC.drw mixed ?_ | refine HD.k ?_ | refine HD.g ?_ | refine HD.nil ?_ | refine HC.blk ?_ | refine HC.cond ?_ | refine HC.skip ?_ | refine HC.exit ?_ | refine HC.ret ?_ | rw [fL_eq]); conv => whnf)
    refine ⟨_, _, app_pure rfl (src_k _ (x :: r)) (by simp) (room_le hl (by omega)), ?_⟩
    rw [chunks_ins]
    conv => whnf
    repeat ((first | refine HC.seq ?_ | refine HC.ops ?_ | refine HO.k ?_ | refine HO.g ?_ | refine HO.nil ?_ | refine HC.drw mixed ?_ | refine HD.k ?_ | refine HD.g ?_ | refine HD.nil ?_ | refine HC.blk ?_ | refine HC.cond ?_ | refine HC.skip ?_ | refine HC.exit ?_ | refine HC.ret ?_ | rw [fL_eq]); conv => whnf)
    exact .one (.pu 2 _ _)

theorem insC_nm {L : Nat → Prop} : ∀ (k : Kd), ∀ v ∈ insC k, Nm L v
  | [], v, h => by simp [insC] at h
  | x :: k, v, h => by
    rw [insC_cons] at h
    rcases List.mem_cons.1 h with rfl | h
    · exact .i _ _
    · rcases List.mem_cons.1 h with rfl | h
      · exact .i _ _
      · exact insC_nm k v h
theorem ks_nm {L : Nat → Prop} (ks : List Kd) : ∀ v ∈ ks.map kV, Nm L v := fun v hv => by
  obtain ⟨k, -, rfl⟩ := List.mem_map.1 hv; exact kV_nm k

def sOne (t : Nat) (cs : List V) : St := ⟨.n (.n .e (some (.c cs 0 (some t))) .e) (some (.c [] 0 (some t))) .e, 2, []⟩

theorem cloneK_heap (k : Kd) (h0 : k ≠ []) (hl : k.length ≤ 200) (s : St) : Den gt0 Tryd.prog 41 [kV k] s (.sl 2 s.n 0 k.length none) (s.new (.c (insC k) 0 (some 29))) := by
  refine Den.one gnm0 (nm1 (kV_nm _)) (insC_nm k) (k0 := 1) (s1 := sOne 29 (insC k)) rfl (Den.hc hF41m ?_) s
  obtain ⟨x, r, rfl⟩ := List.exists_cons_of_ne_nil h0
  conv => whnf
  repeat ((first | refine HC.seq ?_ | refine HC.ops ?_ | refine HO.k ?_ | refine HO.g ?_ | refine HO.nil ?_ | refine HC.drw mixed ?_ | refine HD.k ?_ | refine HD.g ?_ | refine HD.nil ?_ | refine HC.blk ?_ | refine HC.cond ?_ | refine HC.skip ?_ | refine HC.exit ?_ | refine HC.ret ?_ | rw [fL_eq]); conv => whnf)
  refine ⟨_, _, app_heap rfl rfl (src_k _ (x :: r)) (by simp) (room_le hl (by omega)), ?_⟩
  conv => whnf
  repeat ((first | refine HC.seq ?_ | refine HC.ops ?_ | refine HO.k ?_ | refine HO.g ?_ | refine HO.nil ?_ | refine HC.drw mixed ?_ | refine HD.k ?_ | refine HD.g ?_ | refine HD.nil ?_ | refine HC.blk ?_ | refine HC.cond ?_ | refine HC.skip ?_ | refine HC.exit ?_ | refine HC.ret ?_ | rw [fL_eq]); conv => whnf)
  exact ⟨.refl _, .refl _⟩

theorem cloneO_nil : PDen gt0 Tryd.prog 40 [ksV []] (ksV []) := by
  refine PDen.empty1 (PDen.hcw gnm0 hF40 (nm1 .ns) (ksV_nm []) ?_) (PDen.hcw gnm0 hF40 (nm1 (.pu _ _ _ (fun x hx => by simp at hx) (fun k hk => by cases hk))) (ksV_nm []) ?_)
  · conv => whnf
    repeat ((first | refine HC.seq ?_ | refine HC.ops ?_ | refine HO.k ?_ | refine HO.g ?_ | refine HO.nil ?_ | refine HC.drw mixed ?_ | refine HD.k ?_ | refine HD.g ?_ | refine HD.nil ?_ | refine HC.blk ?_ | refine HC.cond ?_ | refine HC.skip ?_ | refine HC.exit ?_ | refine HC.ret ?_ | rw [fL_eq]); conv => whnf)
    exact .one (.ns 1)
  · conv => whnf
    repeat ((first | refine HC.seq ?_ | refine HC.ops ?_ | refine HO.k ?_ | refine HO.g ?_ | refine HO.nil ?_ | refine HC.drw mixed ?_ | refine HD.k ?_ | refine HD.g ?_ | refine HD.nil ?_ | refine HC.blk ?_ | refine HC.cond ?_ | refine HC.skip ?_ | refine HC.exit ?_ | refine HC.ret ?_ | rw [fL_eq]); conv => whnf)
    refine ⟨_, _, rfl, ?_⟩
    conv => whnf
    repeat ((first | refine HC.seq ?_ | refine HC.ops ?_ | refine HO.k ?_ | refine HO.g ?_ | refine HO.nil ?_ | refine HC.drw mixed ?_ | refine HD.k ?_ | refine HD.g ?_ | refine HD.nil ?_ | refine HC.blk ?_ | refine HC.cond ?_ | refine HC.skip ?_ | refine HC.exit ?_ | refine HC.ret ?_ | rw [fL_eq]); conv => whnf)
    exact .one (.pu 1 [] _)

theorem cloneO_heap (ks : List Kd) (h0 : ks ≠ []) (hl : ks.length ≤ 200) (s : St) : Den gt0 Tryd.prog 40 [ksV ks] s (.sl 1 s.n 0 ks.length none) (s.new (.c (ks.map kV) 0 (some 27))) := by
  refine Den.one gnm0 (nm1 (ksV_nm _)) (ks_nm ks) (k0 := 1) (s1 := sOne 27 (ks.map kV)) rfl (Den.hc hF40m ?_) s
  obtain ⟨x, r, rfl⟩ := List.exists_cons_of_ne_nil h0
  conv => whnf
  repeat ((first | refine HC.seq ?_ | refine HC.ops ?_ | refine HO.k ?_ | refine HO.g ?_ | refine HO.nil ?_ | refine HC.drw mixed ?_ | refine HD.k ?_ | refine HD.g ?_ | refine HD.nil ?_ | refine HC.blk ?_ | refine HC.cond ?_ | refine HC.skip ?_ | refine HC.exit ?_ | refine HC.ret ?_ | rw [fL_eq]); conv => whnf)
  refine ⟨_, _, app_heap rfl rfl (src_ks _ (x :: r)) (by simp) (room_le hl (by omega)), ?_⟩
  conv => whnf
  repeat ((first | refine HC.seq ?_ | refine HC.ops ?_ | refine HO.k ?_ | refine HO.g ?_ | refine HO.nil ?_ | refine HC.drw mixed ?_ | refine HD.k ?_ | refine HD.g ?_ | refine HD.nil ?_ | refine HC.blk ?_ | refine HC.cond ?_ | refine HC.skip ?_ | refine HC.exit ?_ | refine HC.ret ?_ | rw [fL_eq]); conv => whnf)
  exact ⟨.refl _, .refl _⟩
end Go.Proofs.YtbeoanbhnlahpaaDoor
