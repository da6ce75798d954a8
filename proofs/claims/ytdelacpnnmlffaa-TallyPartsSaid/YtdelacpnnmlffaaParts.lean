/-
  Contracts: tallies added; the law's walk. No statement stands here.
-/
import Derived.Test.YtdelacpnnmlffaaOf
set_option linter.all false
namespace Go.Proofs.Ytdelacpnnmlffaa
open Go Rf
set_option maxRecDepth 100000
set_option maxHeartbeats 400000

theorem wrap_wrap (x : Int) : wrapF .i64 (wrapF .i64 x) = wrapF .i64 x := by
  have h := wrap_acc x 0
  rwa [Int.add_zero, Int.add_zero] at h

theorem add_den (a b : Tl) (ha : a.ev ≤ maxLen) (hb : b.ev ≤ maxLen) : PDen gt0 Try.prog 8 [.ag a.v, .ag b.v] (.ag (a.add b).v) := by
  generalize hB : (a.add b).v = B
  refine PDen.hc gnm0 hF8 (fun x hx => ?_) (by subst hB; exact .ag _ (@vT_nm _ _ _ _ _ _ _ _ _)) ?_
  · simp only [List.mem_cons, List.not_mem_nil, or_false] at hx
    rcases hx with rfl | rfl <;> exact .ag _ (@vT_nm _ _ _ _ _ _ _ _ _)
  obtain ⟨a1, a2, a3, a4, a5, a6, a7, a8⟩ := a
  obtain ⟨b1, b2, b3, b4, b5, b6, b7, b8⟩ := b
  have ha : a1 ≤ maxLen := ha
  have hb : b1 ≤ maxLen := hb
  have hz : ∀ y : Nat, y ≤ maxLen → eqZ (wrapF .i64 (y : Int)) 0 = decide (y = 0) := fun y h => by
    rw [wrap_small h (Nat.le_refl _), eqZ_eq, Bool.eq_iff_iff]; simp
  have hza := hz a1 ha
  have hzb := hz b1 hb
  clear hz
  simp only [Tl.v]
  conv => whnf
  repeat' (first | ((first | refine HC.seq ?_ | refine HC.ops ?_ | refine HO.k ?_ | refine HO.g ?_ | refine HO.nil ?_ | refine HC.drw mixed ?_ | refine HD.k ?_ | refine HD.g ?_ | refine HD.nil ?_ | refine HC.blk ?_ | refine HC.cond ?_ | refine HC.skip ?_ | refine HC.exit ?_ | refine HC.ret ?_ | refine HC.ret ?_); conv => whnf) | (refine brB_iff.2 ⟨fun hc => ?_, fun hc => ?_⟩ <;> conv => whnf))
  all_goals
    subst hB
    refine Eq.trans (b := .ag [.i .i64 _, .i .i64 _, .i .i64 _, .i .i64 _, .i .i64 _, .i .i64 _, .i .i64 _, .i .i64 _]) rfl ?_
    simp_all [Tl.v, Tl.add, vT, wrap_acc, wrap_acc2, wrap_wrap]

theorem nil_run : (evFT tb 1000 1000 7 [.ns] s0).map (·.1) = some (.ag (vT 0 0 0 0 0 0 (-1) (-1))) := by kernel_rfl
theorem nil_den : PDen gt0 Try.prog 7 [.ns] (.ag Tl.z.v) := by
  obtain ⟨s', h⟩ := den_of nil_run
  exact Den.pure gnm0 (fun x hx => by simp only [List.mem_singleton] at hx; subst hx; exact .ns) (.ag _ (@vT_nm _ _ _ _ _ _ _ _ _)) h

theorem bnd_k {n k : Nat} (h : k ≤ n) : bnd n (.i .i64 (k : Int)) = some k := by
  simp [bnd]; omega
theorem slb_to {n k : Nat} (h : k ≤ n) : slb n n none (some (.i .i64 (k : Int))) none = some (0, k, n) := by
  have := bnd_k h
  delta slb
  simp [this]
theorem slb_from {n k : Nat} (h : k ≤ n) : slb n n (some (.i .i64 (k : Int))) none none = some (k, n, n) := by
  have := bnd_k h
  delta slb
  simp [this]
theorem slc_to {e : List V} {s : St} {x y : Arg} {ms : List Mv} {k : Nat} (hx : x.ev e = .pu 47 (ms.map Mv.v) .u) (hy : y.ev e = .i .i64 (k : Int)) (hk : k ≤ ms.length) :
    aop e s (.slc 47 x none (some y) none) = some (.pu 47 ((ms.take k).map Mv.v) .u, s) := by
  simp only [aop, hx, hy, Option.map_some, Option.map_none, List.length_map, capOr, slb_to hk]
  rw [if_neg (by simp), if_neg (by omega)]
  simp only [List.drop_zero, List.map_take]
  split
  · rename_i h; rw [List.take_of_length_le (by simp; omega)]
  · rfl
theorem slc_from {e : List V} {s : St} {x y : Arg} {ms : List Mv} {k : Nat} (hx : x.ev e = .pu 47 (ms.map Mv.v) .u) (hy : y.ev e = .i .i64 (k : Int)) (hk : k ≤ ms.length) :
    aop e s (.slc 47 x (some y) none none) = some (.pu 47 ((ms.drop k).map Mv.v) .u, s) := by
  simp only [aop, hx, hy, Option.map_some, Option.map_none, List.length_map, capOr, slb_from hk]
  rw [if_neg (by simp), if_neg (by omega)]
  have h1 : (ms.map Mv.v).take ms.length = ms.map Mv.v := List.take_of_length_le (by simp)
  simp only [List.map_drop, h1]
  split
  · rename_i h; rw [h.1]; rfl
  · rfl

theorem stays_one {gt : Nat → Option V} {P : Program} {e : List V} {v : V} {t s' : St} {l : List St} {y : A} (h : aop e t y = some (v, s')) : stays gt P e v (.a y) (List.take 1 (t :: l)) := by
  simp only [List.take, stays, h, and_self]

theorem parts_den (ms : List Mv) (a : Int) (hn : ∀ m ∈ ms, Nm s0.L m.v) (hl : ms.length ≤ maxLen) : PDen gt0 Try.prog 3 [.pu 47 (ms.map Mv.v) .u, .i .i64 a] (.b true) := by
  refine PDen.hc gnm0 hF3 (fun x hx => ?_) (.b _) ?_
  · simp only [List.mem_cons, List.not_mem_nil, or_false] at hx
    rcases hx with rfl | rfl
    · exact nm_moves hn
    · exact .i _ _
  have hlen : (ms.map Mv.v).length = ms.length := List.length_map ..
  conv => whnf
  repeat' (first | ((first | refine HC.seq ?_ | refine HC.ops ?_ | refine HO.k ?_ | refine HO.g ?_ | refine HO.nil ?_ | refine HC.drw mixed ?_ | refine HD.k ?_ | refine HD.g ?_ | refine HD.nil ?_ | refine HC.blk ?_ | refine HC.cond ?_ | refine HC.skip ?_ | refine HC.exit ?_ | refine HC.ret ?_ | refine HC.ret ?_ | refine ⟨_, _, much_den ms hn hl _, ?_⟩ | refine ⟨_, _, known_pden _, ?_⟩); conv => whnf) | (refine brB_iff.2 ⟨fun hc => ?_, fun hc => ?_⟩ <;> conv => whnf))
  rename_i hc1 hc2
  have hc3 := hc
  rw [ltZ_eq] at hc2 hc3
  have h0 : 0 ≤ a := by simpa using hc2
  obtain ⟨k, rfl⟩ := Int.eq_ofNat_of_zero_le h0
  have hk : k ≤ ms.length := by rw [hlen] at hc3; simpa using hc3
  have hA := of_den (ms.take k) (fun m h => hn m (List.mem_of_mem_take h)) (by rw [List.length_take]; omega)
  have hB := of_den (ms.drop k) (fun m h => hn m (List.mem_of_mem_drop h)) (by rw [List.length_drop]; omega)
  have hM := of_den ms hn hl
  have hAB : ofT ms = (ofT (ms.take k)).add (ofT (ms.drop k)) := by rw [← ofT_app, List.take_append_drop]
  have hAe : (ofT (ms.take k)).ev ≤ maxLen := Nat.le_trans (ofT_ok _).2 (by rw [List.length_take]; omega)
  have hBe : (ofT (ms.drop k)).ev ≤ maxLen := Nat.le_trans (ofT_ok _).2 (by rw [List.length_drop]; omega)
  have hAo := (ofT_ok (ms.take k)).1
  have hBo := (ofT_ok (ms.drop k)).1
  rw [hAB] at hM
  generalize ofT (ms.take k) = A at *
  generalize ofT (ms.drop k) = B at *
  have d1 := add_den A B hAe hBe
  have d2 := add_den .z B (Nat.zero_le _) hBe
  have d3 := add_den A .z hAe (Nat.zero_le _)
  rw [Tl.z_add hBo] at d2
  rw [Tl.add_z hAo] at d3
  refine ⟨_, _, slc_to rfl rfl hk, ?_⟩
  conv => whnf
  repeat ((first | refine HC.seq ?_ | refine HC.ops ?_ | refine HO.k ?_ | refine HO.g ?_ | refine HO.nil ?_ | refine HC.drw mixed ?_ | refine HD.k ?_ | refine HD.g ?_ | refine HD.nil ?_ | refine HC.blk ?_ | refine HC.cond ?_ | refine HC.skip ?_ | refine HC.exit ?_ | refine HC.ret ?_); conv => whnf)
  refine ⟨_, _, hA _, ?_⟩
  conv => whnf
  repeat ((first | refine HC.seq ?_ | refine HC.ops ?_ | refine HO.k ?_ | refine HO.g ?_ | refine HO.nil ?_ | refine HC.drw mixed ?_ | refine HD.k ?_ | refine HD.g ?_ | refine HD.nil ?_ | refine HC.blk ?_ | refine HC.cond ?_ | refine HC.skip ?_ | refine HC.exit ?_ | refine HC.ret ?_); conv => whnf)
  refine ⟨_, _, slc_from rfl rfl hk, ?_⟩
  conv => whnf
  refine ⟨stays_one (slc_from rfl rfl hk), ?_⟩
  conv => whnf
  repeat ((first | refine HC.seq ?_ | refine HC.ops ?_ | refine HO.k ?_ | refine HO.g ?_ | refine HO.nil ?_ | refine HC.drw mixed ?_ | refine HD.k ?_ | refine HD.g ?_ | refine HD.nil ?_ | refine HC.blk ?_ | refine HC.cond ?_ | refine HC.skip ?_ | refine HC.exit ?_ | refine HC.ret ?_); conv => whnf)
  refine ⟨_, _, hB _, ?_⟩
  conv => whnf
  repeat ((first | refine HC.seq ?_ | refine HC.ops ?_ | refine HO.k ?_ | refine HO.g ?_ | refine HO.nil ?_ | refine HC.drw mixed ?_ | refine HD.k ?_ | refine HD.g ?_ | refine HD.nil ?_ | refine HC.blk ?_ | refine HC.cond ?_ | refine HC.skip ?_ | refine HC.exit ?_ | refine HC.ret ?_); conv => whnf)
  refine ⟨_, _, nil_den _, ?_⟩
  conv => whnf
  repeat ((first | refine HC.seq ?_ | refine HC.ops ?_ | refine HO.k ?_ | refine HO.g ?_ | refine HO.nil ?_ | refine HC.drw mixed ?_ | refine HD.k ?_ | refine HD.g ?_ | refine HD.nil ?_ | refine HC.blk ?_ | refine HC.cond ?_ | refine HC.skip ?_ | refine HC.exit ?_ | refine HC.ret ?_); conv => whnf)
  refine ⟨_, _, d1 _, ?_⟩
  conv => whnf
  repeat ((first | refine HC.seq ?_ | refine HC.ops ?_ | refine HO.k ?_ | refine HO.g ?_ | refine HO.nil ?_ | refine HC.drw mixed ?_ | refine HD.k ?_ | refine HD.g ?_ | refine HD.nil ?_ | refine HC.blk ?_ | refine HC.cond ?_ | refine HC.skip ?_ | refine HC.exit ?_ | refine HC.ret ?_); conv => whnf)
  refine ⟨_, _, hM _, ?_⟩
  conv => whnf
  repeat' (first | ((first | refine HC.seq ?_ | refine HC.ops ?_ | refine HO.k ?_ | refine HO.g ?_ | refine HO.nil ?_ | refine HC.drw mixed ?_ | refine HD.k ?_ | refine HD.g ?_ | refine HD.nil ?_ | refine HC.blk ?_ | refine HC.cond ?_ | refine HC.skip ?_ | refine HC.exit ?_ | refine HC.ret ?_ | refine HC.ret ?_ | refine ⟨_, _, d2 _, ?_⟩ | refine ⟨_, _, d3 _, ?_⟩ | refine ⟨_, _, known_pden _, ?_⟩ | refine ⟨stays_one rfl, ?_⟩); conv => whnf) | (refine brB_iff.2 ⟨fun hc => ?_, fun hc => ?_⟩ <;> conv => whnf))
  all_goals
    exfalso
    clear hA hB hM d1 d2 d3 hAB
    simp [eqZ_eq] at hc
end Go.Proofs.Ytdelacpnnmlffaa
