/-
  The law's walk: CodeBytes answers true. No statement stands here.
-/
import Derived.Test.YtbeoanbhnlahpaaDoorPlain
set_option linter.all false
namespace Go.Proofs.YtbeoanbhnlahpaaDoor
open Go Rf
set_option maxRecDepth 100000
set_option maxHeartbeats 4000000

theorem known_pden : PDen gt0 Tryd.prog 13 [] (.b true) := by
  obtain ⟨s', h⟩ := den_of known_run
  exact Den.pure gnm0 (fun x hx => by simp at hx) (.b _) h
def bad0 : V := .ag [.i .i64 0, .ns]
theorem bad0_same : PDen gt0 Tryd.prog 17 [bad0, bad0] (.b true) :=
  pden_of (nm2 (.ag _ (nm2 (.i _ _) .ns)) (.ag _ (nm2 (.i _ _) .ns))) (.b _) (by kernel_rfl)
theorem self17 (v : Int) (ks : List Kd) (hl : ks.length ≤ maxLen) (hk : ∀ k ∈ ks, k.length ≤ maxLen) : PDen gt0 Tryd.prog 17 [pgV v ks, pgV v ks] (.b true) := by
  have := rsame_den v v ks ks hl hk
  rwa [decide_eq_true ⟨rfl, rfl⟩] at this
theorem NoX.newt {s : St} (h : NoX s) (n : Nat) : NoX (s.new (.t n)) := fun l o hg => by
  by_cases e : l = s.n
  · subst e; rw [St.get_new_same] at hg; cases hg
  · rw [St.get_new_ne _ _ _ e] at hg; exact h l o hg
theorem own_app {e : List V} {s : St} {x y : Arg} {t : Nat} {bs : List UInt8} (hg : Rf.Good s) (hx : NoX s) (h1 : x.ev e = .ns) (h2 : y.ev e = bsV bs) (hb : bs.length ≤ 5000) {Q : V → St → Prop}
    (k : ∀ v s', Vw1 v (bsV bs) → Rf.Good s' → NoX s' → Grow s s' → Q v s') : ∃ v s', aop e s (.app t true false 1 1 x y) = some (v, s') ∧ Q v s' := by
  have hy' : srcOf s 1 (y.ev e) = some (bs.length, ((bs.map bV).map V.cells).flatten) := by rw [h2]; simp [srcOf, bsV]
  by_cases hn : bs.length = 0
  · have hb0 : bs = [] := List.length_eq_zero_iff.1 hn
    subst hb0
    exact ⟨.ns, s, by simp only [aop, hy', h1, appV]; rfl, k _ _ (.ns 1) hg hx (Grow.refl s)⟩
  · refine ⟨.pu 1 (bs.map bV) (.t s.n), s.new (.t (bs.length * 1)), ?_, k _ _ (.pu 1 _ _) hg.new (NoX.newt hx _) ((Grow.refl s).new _)⟩
    simp only [aop, hy', h1, appV, bytes_chunks]
    have hr : room bs.length 1 = true := room_b (by omega)
    simp [hn, hr]
theorem toB (xs : List UInt8) : toBytes (((xs.map bV).map V.cells).flatten) = some xs := by
  induction xs with
  | nil => rfl
  | cons x xs ih =>
    show toBytes (bV x :: ((xs.map bV).map V.cells).flatten) = some (x :: xs)
    generalize ((xs.map bV).map V.cells).flatten = L at *
    simp [toBytes, bV, ih]
theorem slc_h {e : List V} {s : St} {x h : Arg} {a : Nat} {bs : List UInt8} (hx : x.ev e = bsV bs) (hh : h.ev e = .i .i64 ((a : Nat) : Int)) (ha : a ≤ bs.length) : aop e s (.slc 1 x none (some h) none) = some (bsV (bs.take a), s) := by
  have hlb : (bs.map bV).length = bs.length := List.length_map ..
  have h1 : slb (bs.map bV).length (capOr .u (bs.map bV).length) none (some (.i .i64 ((a : Nat) : Int))) none = some (0, a, (bs.map bV).length) := by
    have e1 : bnd (bs.map bV).length (.i .i64 ((a : Nat) : Int)) = some a := by simp [bnd, ha]
    delta slb
    simp only [capOr, e1]
  simp only [aop, hx, bsV, Option.map, hh, h1]
  simp only [ne_eq, not_true_eq_false, if_false, if_neg (show ¬ (bs.map bV).length < a by omega), List.drop_zero, List.map_take]
  split
  · rename_i hc
    rw [hc.2, List.take_length]
  · rfl
theorem b2s_b {e : List V} {s : St} {x : Arg} {bs : List UInt8} (hx : x.ev e = bsV bs) : aop e s (.b2s x) = some (.s bs, s) := by
  simp only [aop, hx, bsV, toB]; rfl
theorem law_den (bs : List UInt8) (s : St) (hx : NoX s) : Den gt0 Tryd.prog 5 [bsV bs] s (.b true) s := by
  have hm : 10000 ≤ maxLen := by decide
  have hbb : (bs == bs) = true := by simp
  have hlb : (bs.map bV).length = bs.length := List.length_map ..
  refine Den.tidy fun ht => Den.hm gnm0 hF5 ?_
  have hg0 := ht.1
  conv => whnf
  repeat ((first | refine q1 ?_ | refine q2 ?_ | refine q3 ?_ | refine q4 ?_ | refine q5 ?_ | refine q6 ?_ | refine q7 ?_ | refine q8 ?_ | refine g1 ?_ | refine g2 ?_ | refine g3 ?_ | refine g5 ?_ | refine g6 ?_ | refine d1 ?_ | refine d2 ?_ | refine d3 ?_ | refine d4 ?_ | refine d5 ?_ | refine d6 ?_ | refine d9 ?_ | refine d10 ?_ | refine q9 ?_ | refine q10 ?_ | refine q11 ?_ | refine HM.seq ?_ | refine qk ?_ | refine HO.g ?_ | refine HO.nil ?_ | refine HM.drw mixed ?_ | refine dk ?_ | refine HD.g ?_ | refine HD.nil ?_ | refine HM.blk ?_ | refine HM.cond ?_ | refine HM.skip ?_ | refine HM.exit ?_ | refine HM.ret ?_ | rw [fL_eq] | rw [fN_eq]); conv => whnf)
  refine HM.ops ?_
  conv => whnf
  repeat ((first | refine q1 ?_ | refine q2 ?_ | refine q3 ?_ | refine q4 ?_ | refine q5 ?_ | refine q6 ?_ | refine q7 ?_ | refine q8 ?_ | refine g1 ?_ | refine g2 ?_ | refine g3 ?_ | refine g5 ?_ | refine g6 ?_ | refine d1 ?_ | refine d2 ?_ | refine d3 ?_ | refine d4 ?_ | refine d5 ?_ | refine d6 ?_ | refine d9 ?_ | refine d10 ?_ | refine q9 ?_ | refine q10 ?_ | refine q11 ?_ | refine HM.seq ?_ | refine qk ?_ | refine HO.g ?_ | refine HO.nil ?_ | refine HM.drw mixed ?_ | refine dk ?_ | refine HD.g ?_ | refine HD.nil ?_ | refine HM.blk ?_ | refine HM.cond ?_ | refine HM.skip ?_ | refine HM.exit ?_ | refine HM.ret ?_ | rw [fL_eq] | rw [fN_eq]); conv => whnf)
  refine HM.ops ?_
  conv => whnf
  repeat ((first | refine q1 ?_ | refine q2 ?_ | refine q3 ?_ | refine q4 ?_ | refine q5 ?_ | refine q6 ?_ | refine q7 ?_ | refine q8 ?_ | refine g1 ?_ | refine g2 ?_ | refine g3 ?_ | refine g5 ?_ | refine g6 ?_ | refine d1 ?_ | refine d2 ?_ | refine d3 ?_ | refine d4 ?_ | refine d5 ?_ | refine d6 ?_ | refine d9 ?_ | refine d10 ?_ | refine q9 ?_ | refine q10 ?_ | refine q11 ?_ | refine HM.seq ?_ | refine qk ?_ | refine HO.g ?_ | refine HO.nil ?_ | refine HM.drw mixed ?_ | refine dk ?_ | refine HD.g ?_ | refine HD.nil ?_ | refine HM.blk ?_ | refine HM.cond ?_ | refine HM.skip ?_ | refine HM.exit ?_ | refine HM.ret ?_ | rw [fL_eq] | rw [fN_eq]); conv => whnf)
  rw [hlb]
  refine brB_iff.2 ⟨fun h1 => ?_, fun h1 => ?_⟩ <;> conv => whnf
  · repeat ((first | refine q1 ?_ | refine q2 ?_ | refine q3 ?_ | refine q4 ?_ | refine q5 ?_ | refine q6 ?_ | refine q7 ?_ | refine q8 ?_ | refine g1 ?_ | refine g2 ?_ | refine g3 ?_ | refine g5 ?_ | refine g6 ?_ | refine d1 ?_ | refine d2 ?_ | refine d3 ?_ | refine d4 ?_ | refine d5 ?_ | refine d6 ?_ | refine d9 ?_ | refine d10 ?_ | refine q9 ?_ | refine q10 ?_ | refine q11 ?_ | refine HM.seq ?_ | refine HM.ops ?_ | refine qk ?_ | refine HO.g ?_ | refine HO.nil ?_ | refine HM.drw mixed ?_ | refine dk ?_ | refine HD.g ?_ | refine HD.nil ?_ | refine HM.blk ?_ | refine HM.cond ?_ | refine HM.skip ?_ | refine HM.exit ?_ | refine HM.ret ?_ | rw [fL_eq] | rw [fN_eq]); conv => whnf)
    refine ⟨_, _, known_pden _, ?_⟩
    conv => whnf
    repeat ((first | refine q1 ?_ | refine q2 ?_ | refine q3 ?_ | refine q4 ?_ | refine q5 ?_ | refine q6 ?_ | refine q7 ?_ | refine q8 ?_ | refine g1 ?_ | refine g2 ?_ | refine g3 ?_ | refine g5 ?_ | refine g6 ?_ | refine d1 ?_ | refine d2 ?_ | refine d3 ?_ | refine d4 ?_ | refine d5 ?_ | refine d6 ?_ | refine d9 ?_ | refine d10 ?_ | refine q9 ?_ | refine q10 ?_ | refine q11 ?_ | refine HM.seq ?_ | refine HM.ops ?_ | refine qk ?_ | refine HO.g ?_ | refine HO.nil ?_ | refine HM.drw mixed ?_ | refine dk ?_ | refine HD.g ?_ | refine HD.nil ?_ | refine HM.blk ?_ | refine HM.cond ?_ | refine HM.skip ?_ | refine HM.exit ?_ | refine HM.ret ?_ | rw [fL_eq] | rw [fN_eq]); conv => whnf)
    exact ⟨.refl _, fun hg => ⟨WkS.refl hg, .inl rfl⟩⟩
  · have hb : bs.length ≤ 3000 := by rw [ltZ_eq] at h1; simp only [decide_eq_false_iff_not] at h1; omega
    repeat ((first | refine q1 ?_ | refine q2 ?_ | refine q3 ?_ | refine q4 ?_ | refine q5 ?_ | refine q6 ?_ | refine q7 ?_ | refine q8 ?_ | refine g1 ?_ | refine g2 ?_ | refine g3 ?_ | refine g5 ?_ | refine g6 ?_ | refine d1 ?_ | refine d2 ?_ | refine d3 ?_ | refine d4 ?_ | refine d5 ?_ | refine d6 ?_ | refine d9 ?_ | refine d10 ?_ | refine q9 ?_ | refine q10 ?_ | refine q11 ?_ | refine HM.seq ?_ | refine qk ?_ | refine HO.g ?_ | refine HO.nil ?_ | refine HM.drw mixed ?_ | refine dk ?_ | refine HD.g ?_ | refine HD.nil ?_ | refine HM.blk ?_ | refine HM.cond ?_ | refine HM.skip ?_ | refine HM.exit ?_ | refine HM.ret ?_ | rw [fL_eq] | rw [fN_eq]); conv => whnf)
    refine HM.ops ?_
    conv => whnf
    repeat ((first | refine q1 ?_ | refine q2 ?_ | refine q3 ?_ | refine q4 ?_ | refine q5 ?_ | refine q6 ?_ | refine q7 ?_ | refine q8 ?_ | refine g1 ?_ | refine g2 ?_ | refine g3 ?_ | refine g5 ?_ | refine g6 ?_ | refine d1 ?_ | refine d2 ?_ | refine d3 ?_ | refine d4 ?_ | refine d5 ?_ | refine d6 ?_ | refine d9 ?_ | refine d10 ?_ | refine q9 ?_ | refine q10 ?_ | refine q11 ?_ | refine HM.seq ?_ | refine qk ?_ | refine HO.g ?_ | refine HO.nil ?_ | refine HM.drw mixed ?_ | refine dk ?_ | refine HD.g ?_ | refine HD.nil ?_ | refine HM.blk ?_ | refine HM.cond ?_ | refine HM.skip ?_ | refine HM.exit ?_ | refine HM.ret ?_ | rw [fL_eq] | rw [fN_eq]); conv => whnf)
    refine own_app (bs := bs) hg0 hx rfl rfl (by omega) (fun ov z hv hg1 hx1 hG1 => ?_)
    refine hN_abs ?_
    conv => whnf
    repeat ((first | refine q1 ?_ | refine q2 ?_ | refine q3 ?_ | refine q4 ?_ | refine q5 ?_ | refine q6 ?_ | refine q7 ?_ | refine q8 ?_ | refine g1 ?_ | refine g2 ?_ | refine g3 ?_ | refine g5 ?_ | refine g6 ?_ | refine d1 ?_ | refine d2 ?_ | refine d3 ?_ | refine d4 ?_ | refine d5 ?_ | refine d6 ?_ | refine d9 ?_ | refine d10 ?_ | refine q9 ?_ | refine q10 ?_ | refine q11 ?_ | refine HM.seq ?_ | refine qk ?_ | refine HO.g ?_ | refine HO.nil ?_ | refine HM.drw mixed ?_ | refine dk ?_ | refine HD.g ?_ | refine HD.nil ?_ | refine HM.blk ?_ | refine HM.cond ?_ | refine HM.skip ?_ | refine HM.exit ?_ | refine HM.ret ?_ | rw [fL_eq] | rw [fN_eq]); conv => whnf)
    repeat ((first | refine q1 ?_ | refine q2 ?_ | refine q3 ?_ | refine q4 ?_ | refine q5 ?_ | refine q6 ?_ | refine q7 ?_ | refine q8 ?_ | refine g1 ?_ | refine g2 ?_ | refine g3 ?_ | refine g5 ?_ | refine g6 ?_ | refine d1 ?_ | refine d2 ?_ | refine d3 ?_ | refine d4 ?_ | refine d5 ?_ | refine d6 ?_ | refine d9 ?_ | refine d10 ?_ | refine q9 ?_ | refine q10 ?_ | refine q11 ?_ | refine HM.seq ?_ | refine qk ?_ | refine HO.g ?_ | refine HO.nil ?_ | refine HM.drw mixed ?_ | refine dk ?_ | refine HD.g ?_ | refine HD.nil ?_ | refine HM.blk ?_ | refine HM.cond ?_ | refine HM.skip ?_ | refine HM.exit ?_ | refine HM.ret ?_ | rw [fL_eq] | rw [fN_eq]); conv => whnf)
    repeat ((first | refine q1 ?_ | refine q2 ?_ | refine q3 ?_ | refine q4 ?_ | refine q5 ?_ | refine q6 ?_ | refine q7 ?_ | refine q8 ?_ | refine g1 ?_ | refine g2 ?_ | refine g3 ?_ | refine g5 ?_ | refine g6 ?_ | refine d1 ?_ | refine d2 ?_ | refine d3 ?_ | refine d4 ?_ | refine d5 ?_ | refine d6 ?_ | refine d9 ?_ | refine d10 ?_ | refine q9 ?_ | refine q10 ?_ | refine q11 ?_ | refine HM.seq ?_ | refine qk ?_ | refine HO.g ?_ | refine HO.nil ?_ | refine HM.drw mixed ?_ | refine dk ?_ | refine HD.g ?_ | refine HD.nil ?_ | refine HM.blk ?_ | refine HM.cond ?_ | refine HM.skip ?_ | refine HM.exit ?_ | refine HM.ret ?_ | rw [fL_eq] | rw [fN_eq]); conv => whnf)
    repeat ((first | refine q1 ?_ | refine q2 ?_ | refine q3 ?_ | refine q4 ?_ | refine q5 ?_ | refine q6 ?_ | refine q7 ?_ | refine q8 ?_ | refine g1 ?_ | refine g2 ?_ | refine g3 ?_ | refine g5 ?_ | refine g6 ?_ | refine d1 ?_ | refine d2 ?_ | refine d3 ?_ | refine d4 ?_ | refine d5 ?_ | refine d6 ?_ | refine d9 ?_ | refine d10 ?_ | refine q9 ?_ | refine q10 ?_ | refine q11 ?_ | refine HM.seq ?_ | refine qk ?_ | refine HO.g ?_ | refine HO.nil ?_ | refine HM.drw mixed ?_ | refine dk ?_ | refine HD.g ?_ | refine HD.nil ?_ | refine HM.blk ?_ | refine HM.cond ?_ | refine HM.skip ?_ | refine HM.exit ?_ | refine HM.ret ?_ | rw [fL_eq] | rw [fN_eq]); conv => whnf)
    repeat ((first | refine q1 ?_ | refine q2 ?_ | refine q3 ?_ | refine q4 ?_ | refine q5 ?_ | refine q6 ?_ | refine q7 ?_ | refine q8 ?_ | refine g1 ?_ | refine g2 ?_ | refine g3 ?_ | refine g5 ?_ | refine g6 ?_ | refine d1 ?_ | refine d2 ?_ | refine d3 ?_ | refine d4 ?_ | refine d5 ?_ | refine d6 ?_ | refine d9 ?_ | refine d10 ?_ | refine q9 ?_ | refine q10 ?_ | refine q11 ?_ | refine HM.seq ?_ | refine qk ?_ | refine HO.g ?_ | refine HO.nil ?_ | refine HM.drw mixed ?_ | refine dk ?_ | refine HD.g ?_ | refine HD.nil ?_ | refine HM.blk ?_ | refine HM.cond ?_ | refine HM.skip ?_ | refine HM.exit ?_ | refine HM.ret ?_ | rw [fL_eq] | rw [fN_eq]); conv => whnf)
    refine HM.vw (t := 3) (u := bsV bs) (.succ (.succ (.succ .zero))) (.one hv) ?_
    conv => whnf
    cases h : ofB bs with
    | none =>
      repeat ((first | refine q1 ?_ | refine q2 ?_ | refine q3 ?_ | refine q4 ?_ | refine q5 ?_ | refine q6 ?_ | refine q7 ?_ | refine q8 ?_ | refine g1 ?_ | refine g2 ?_ | refine g3 ?_ | refine g5 ?_ | refine g6 ?_ | refine d1 ?_ | refine d2 ?_ | refine d3 ?_ | refine d4 ?_ | refine d5 ?_ | refine d6 ?_ | refine d9 ?_ | refine d10 ?_ | refine q9 ?_ | refine q10 ?_ | refine q11 ?_ | refine HM.seq ?_ | refine qk ?_ | refine HO.g ?_ | refine HO.nil ?_ | refine HM.drw mixed ?_ | refine dk ?_ | refine HD.g ?_ | refine HD.nil ?_ | refine HM.blk ?_ | refine HM.cond ?_ | refine HM.skip ?_ | refine HM.exit ?_ | refine HM.ret ?_ | rw [fL_eq] | rw [fN_eq]); conv => whnf)
      refine HM.ops ?_
      conv => whnf
      repeat ((first | refine q1 ?_ | refine q2 ?_ | refine q3 ?_ | refine q4 ?_ | refine q5 ?_ | refine q6 ?_ | refine q7 ?_ | refine q8 ?_ | refine g1 ?_ | refine g2 ?_ | refine g3 ?_ | refine g5 ?_ | refine g6 ?_ | refine d1 ?_ | refine d2 ?_ | refine d3 ?_ | refine d4 ?_ | refine d5 ?_ | refine d6 ?_ | refine d9 ?_ | refine d10 ?_ | refine q9 ?_ | refine q10 ?_ | refine q11 ?_ | refine HM.seq ?_ | refine qk ?_ | refine HO.g ?_ | refine HO.nil ?_ | refine HM.drw mixed ?_ | refine dk ?_ | refine HD.g ?_ | refine HD.nil ?_ | refine HM.blk ?_ | refine HM.cond ?_ | refine HM.skip ?_ | refine HM.exit ?_ | refine HM.ret ?_ | rw [fL_eq] | rw [fN_eq]); conv => whnf)
      refine ⟨_, _, ofB_den bs (by omega) z, ?_⟩
      rw [h]
      conv => whnf
      repeat ((first | refine q1 ?_ | refine q2 ?_ | refine q3 ?_ | refine q4 ?_ | refine q5 ?_ | refine q6 ?_ | refine q7 ?_ | refine q8 ?_ | refine g1 ?_ | refine g2 ?_ | refine g3 ?_ | refine g5 ?_ | refine g6 ?_ | refine d1 ?_ | refine d2 ?_ | refine d3 ?_ | refine d4 ?_ | refine d5 ?_ | refine d6 ?_ | refine d9 ?_ | refine d10 ?_ | refine q9 ?_ | refine q10 ?_ | refine q11 ?_ | refine HM.seq ?_ | refine qk ?_ | refine HO.g ?_ | refine HO.nil ?_ | refine HM.drw mixed ?_ | refine dk ?_ | refine HD.g ?_ | refine HD.nil ?_ | refine HM.blk ?_ | refine HM.cond ?_ | refine HM.skip ?_ | refine HM.exit ?_ | refine HM.ret ?_ | rw [fL_eq] | rw [fN_eq]); conv => whnf)
      refine HO.opA krun_alloc ?_
      have hP : (z.new (.c [.i .i64 0, .ns] 0 (some 32))).get z.n = some (.c [.i .i64 0, .ns] 0 (some 32)) := St.get_new_same _ _
      have hg2 := hg1.new (o := .c [.i .i64 0, .ns] 0 (some 32))
      have hx2 : NoX (z.new (.c [.i .i64 0, .ns] 0 (some 32))) := NoX.new hx1
      have hG2 := hG1.new (.c [.i .i64 0, .ns] 0 (some 32))
      have hPs : s.n ≤ z.n := hG1.n
      generalize z.new _ = z2 at *
      generalize z.n = X at *
      conv => whnf
      repeat ((first | refine q1 ?_ | refine q2 ?_ | refine q3 ?_ | refine q4 ?_ | refine q5 ?_ | refine q6 ?_ | refine q7 ?_ | refine q8 ?_ | refine g1 ?_ | refine g2 ?_ | refine g3 ?_ | refine g5 ?_ | refine g6 ?_ | refine d1 ?_ | refine d2 ?_ | refine d3 ?_ | refine d4 ?_ | refine d5 ?_ | refine d6 ?_ | refine d9 ?_ | refine d10 ?_ | refine q9 ?_ | refine q10 ?_ | refine q11 ?_ | refine HM.seq ?_ | refine qk ?_ | refine HO.g ?_ | refine HO.nil ?_ | refine HM.drw mixed ?_ | refine dk ?_ | refine HD.g ?_ | refine HD.nil ?_ | refine HM.blk ?_ | refine HM.cond ?_ | refine HM.skip ?_ | refine HM.exit ?_ | refine HM.ret ?_ | rw [fL_eq] | rw [fN_eq]); conv => whnf)
      refine HO.opA (krun_store (n := 2) (l := X) (o := 0) (v := .ag [.i .i64 0, .ns]) (cs' := [.i .i64 0, .ns]) (by rfl) (by rfl) hP rfl rfl (Nat.zero_le _) (by simp) rfl) ?_
      have hP3 : (z2.put X (some (.c [.i .i64 0, .ns] 0 (some 32)))).get X = some (.c [.i .i64 0, .ns] 0 (some 32)) := St.get_put_same _ _ _
      have hg3 := hg2.put (o' := .c [.i .i64 0, .ns] 0 (some 32)) hP
      have hx3 : NoX (z2.put X (some (.c [.i .i64 0, .ns] 0 (some 32)))) := NoX.put hx2
      have hG3 := hG2.put hPs (some (.c [.i .i64 0, .ns] 0 (some 32)))
      generalize z2.put X _ = z3 at *
      conv => whnf
      repeat ((first | refine q1 ?_ | refine q2 ?_ | refine q3 ?_ | refine q4 ?_ | refine q5 ?_ | refine q6 ?_ | refine q7 ?_ | refine q8 ?_ | refine g1 ?_ | refine g2 ?_ | refine g3 ?_ | refine g5 ?_ | refine g6 ?_ | refine d1 ?_ | refine d2 ?_ | refine d3 ?_ | refine d4 ?_ | refine d5 ?_ | refine d6 ?_ | refine d9 ?_ | refine d10 ?_ | refine q9 ?_ | refine q10 ?_ | refine q11 ?_ | refine HM.seq ?_ | refine qk ?_ | refine HO.g ?_ | refine HO.nil ?_ | refine HM.drw mixed ?_ | refine dk ?_ | refine HD.g ?_ | refine HD.nil ?_ | refine HM.blk ?_ | refine HM.cond ?_ | refine HM.skip ?_ | refine HM.exit ?_ | refine HM.ret ?_ | rw [fL_eq] | rw [fN_eq]); conv => whnf)
      refine HM.ops ?_
      conv => whnf
      repeat ((first | refine q1 ?_ | refine q2 ?_ | refine q3 ?_ | refine q4 ?_ | refine q5 ?_ | refine q6 ?_ | refine q7 ?_ | refine q8 ?_ | refine g1 ?_ | refine g2 ?_ | refine g3 ?_ | refine g5 ?_ | refine g6 ?_ | refine d1 ?_ | refine d2 ?_ | refine d3 ?_ | refine d4 ?_ | refine d5 ?_ | refine d6 ?_ | refine d9 ?_ | refine d10 ?_ | refine q9 ?_ | refine q10 ?_ | refine q11 ?_ | refine HM.seq ?_ | refine qk ?_ | refine HO.g ?_ | refine HO.nil ?_ | refine HM.drw mixed ?_ | refine dk ?_ | refine HD.g ?_ | refine HD.nil ?_ | refine HM.blk ?_ | refine HM.cond ?_ | refine HM.skip ?_ | refine HM.exit ?_ | refine HM.ret ?_ | rw [fL_eq] | rw [fN_eq]); conv => whnf)
      refine ⟨_, _, rof_den bs (by omega) z3 hx3, ?_⟩
      rw [h]
      conv => whnf
      repeat ((first | refine q1 ?_ | refine q2 ?_ | refine q3 ?_ | refine q4 ?_ | refine q5 ?_ | refine q6 ?_ | refine q7 ?_ | refine q8 ?_ | refine g1 ?_ | refine g2 ?_ | refine g3 ?_ | refine g5 ?_ | refine g6 ?_ | refine d1 ?_ | refine d2 ?_ | refine d3 ?_ | refine d4 ?_ | refine d5 ?_ | refine d6 ?_ | refine d9 ?_ | refine d10 ?_ | refine q9 ?_ | refine q10 ?_ | refine q11 ?_ | refine HM.seq ?_ | refine qk ?_ | refine HO.g ?_ | refine HO.nil ?_ | refine HM.drw mixed ?_ | refine dk ?_ | refine HD.g ?_ | refine HD.nil ?_ | refine HM.blk ?_ | refine HM.cond ?_ | refine HM.skip ?_ | refine HM.exit ?_ | refine HM.ret ?_ | rw [fL_eq] | rw [fN_eq]); conv => whnf)
      refine HO.opA krun_alloc ?_
      have hQ : (z3.new (.c [.i .i64 0, .ns] 0 (some 32))).get z3.n = some (.c [.i .i64 0, .ns] 0 (some 32)) := St.get_new_same _ _
      have hXY : X ≠ z3.n := Nat.ne_of_lt (hg3.1 _ _ hP3).1
      have hP4 : (z3.new (.c [.i .i64 0, .ns] 0 (some 32))).get X = some (.c [.i .i64 0, .ns] 0 (some 32)) := by rw [St.get_new_ne _ _ _ hXY]; exact hP3
      have hx4 : NoX (z3.new (.c [.i .i64 0, .ns] 0 (some 32))) := NoX.new hx3
      have hG4 := hG3.new (.c [.i .i64 0, .ns] 0 (some 32))
      have hQs : s.n ≤ z3.n := hG3.n
      generalize z3.new _ = z4 at *
      generalize z3.n = Y at *
      conv => whnf
      repeat ((first | refine q1 ?_ | refine q2 ?_ | refine q3 ?_ | refine q4 ?_ | refine q5 ?_ | refine q6 ?_ | refine q7 ?_ | refine q8 ?_ | refine g1 ?_ | refine g2 ?_ | refine g3 ?_ | refine g5 ?_ | refine g6 ?_ | refine d1 ?_ | refine d2 ?_ | refine d3 ?_ | refine d4 ?_ | refine d5 ?_ | refine d6 ?_ | refine d9 ?_ | refine d10 ?_ | refine q9 ?_ | refine q10 ?_ | refine q11 ?_ | refine HM.seq ?_ | refine qk ?_ | refine HO.g ?_ | refine HO.nil ?_ | refine HM.drw mixed ?_ | refine dk ?_ | refine HD.g ?_ | refine HD.nil ?_ | refine HM.blk ?_ | refine HM.cond ?_ | refine HM.skip ?_ | refine HM.exit ?_ | refine HM.ret ?_ | rw [fL_eq] | rw [fN_eq]); conv => whnf)
      refine HO.opA (krun_store (n := 2) (l := Y) (o := 0) (v := .ag [.i .i64 0, .ns]) (cs' := [.i .i64 0, .ns]) (by rfl) (by rfl) hQ rfl rfl (Nat.zero_le _) (by simp) rfl) ?_
      have hQ5 : (z4.put Y (some (.c [.i .i64 0, .ns] 0 (some 32)))).get Y = some (.c [.i .i64 0, .ns] 0 (some 32)) := St.get_put_same _ _ _
      have hP5 : (z4.put Y (some (.c [.i .i64 0, .ns] 0 (some 32)))).get X = some (.c [.i .i64 0, .ns] 0 (some 32)) := by rw [St.get_put_ne _ _ _ _ hXY]; exact hP4
      have hx5 : NoX (z4.put Y (some (.c [.i .i64 0, .ns] 0 (some 32)))) := NoX.put hx4
      have hG5 := hG4.put hQs (some (.c [.i .i64 0, .ns] 0 (some 32)))
      generalize z4.put Y _ = z5 at *
      conv => whnf
      repeat ((first | refine q1 ?_ | refine q2 ?_ | refine q3 ?_ | refine q4 ?_ | refine q5 ?_ | refine q6 ?_ | refine q7 ?_ | refine q8 ?_ | refine g1 ?_ | refine g2 ?_ | refine g3 ?_ | refine g5 ?_ | refine g6 ?_ | refine d1 ?_ | refine d2 ?_ | refine d3 ?_ | refine d4 ?_ | refine d5 ?_ | refine d6 ?_ | refine d9 ?_ | refine d10 ?_ | refine q9 ?_ | refine q10 ?_ | refine q11 ?_ | refine HM.seq ?_ | refine qk ?_ | refine HO.g ?_ | refine HO.nil ?_ | refine HM.drw mixed ?_ | refine dk ?_ | refine HD.g ?_ | refine HD.nil ?_ | refine HM.blk ?_ | refine HM.cond ?_ | refine HM.skip ?_ | refine HM.exit ?_ | refine HM.ret ?_ | rw [fL_eq] | rw [fN_eq]); conv => whnf)
      refine HM.ops ?_
      conv => whnf
      repeat ((first | refine q1 ?_ | refine q2 ?_ | refine q3 ?_ | refine q4 ?_ | refine q5 ?_ | refine q6 ?_ | refine q7 ?_ | refine q8 ?_ | refine g1 ?_ | refine g2 ?_ | refine g3 ?_ | refine g5 ?_ | refine g6 ?_ | refine d1 ?_ | refine d2 ?_ | refine d3 ?_ | refine d4 ?_ | refine d5 ?_ | refine d6 ?_ | refine d9 ?_ | refine d10 ?_ | refine q9 ?_ | refine q10 ?_ | refine q11 ?_ | refine HM.seq ?_ | refine qk ?_ | refine HO.g ?_ | refine HO.nil ?_ | refine HM.drw mixed ?_ | refine dk ?_ | refine HD.g ?_ | refine HD.nil ?_ | refine HM.blk ?_ | refine HM.cond ?_ | refine HM.skip ?_ | refine HM.exit ?_ | refine HM.ret ?_ | rw [fL_eq] | rw [fN_eq]); conv => whnf)
      refine ⟨_, _, bad0_same _, ?_⟩
      conv => whnf
      repeat ((first | refine q1 ?_ | refine q2 ?_ | refine q3 ?_ | refine q4 ?_ | refine q5 ?_ | refine q6 ?_ | refine q7 ?_ | refine q8 ?_ | refine g1 ?_ | refine g2 ?_ | refine g3 ?_ | refine g5 ?_ | refine g6 ?_ | refine d1 ?_ | refine d2 ?_ | refine d3 ?_ | refine d4 ?_ | refine d5 ?_ | refine d6 ?_ | refine d9 ?_ | refine d10 ?_ | refine q9 ?_ | refine q10 ?_ | refine q11 ?_ | refine HM.seq ?_ | refine qk ?_ | refine HO.g ?_ | refine HO.nil ?_ | refine HM.drw mixed ?_ | refine dk ?_ | refine HD.g ?_ | refine HD.nil ?_ | refine HM.blk ?_ | refine HM.cond ?_ | refine HM.skip ?_ | refine HM.exit ?_ | refine HM.ret ?_ | rw [fL_eq] | rw [fN_eq]); conv => whnf)
      refine ⟨_, _, b2s_b (bs := bs) rfl, ?_⟩
      conv => whnf
      repeat ((first | refine q1 ?_ | refine q2 ?_ | refine q3 ?_ | refine q4 ?_ | refine q5 ?_ | refine q6 ?_ | refine q7 ?_ | refine q8 ?_ | refine g1 ?_ | refine g2 ?_ | refine g3 ?_ | refine g5 ?_ | refine g6 ?_ | refine d1 ?_ | refine d2 ?_ | refine d3 ?_ | refine d4 ?_ | refine d5 ?_ | refine d6 ?_ | refine d9 ?_ | refine d10 ?_ | refine q9 ?_ | refine q10 ?_ | refine q11 ?_ | refine HM.seq ?_ | refine qk ?_ | refine HO.g ?_ | refine HO.nil ?_ | refine HM.drw mixed ?_ | refine dk ?_ | refine HD.g ?_ | refine HD.nil ?_ | refine HM.blk ?_ | refine HM.cond ?_ | refine HM.skip ?_ | refine HM.exit ?_ | refine HM.ret ?_ | rw [fL_eq] | rw [fN_eq]); conv => whnf)
      refine ⟨_, _, b2s_b (bs := bs) rfl, ?_⟩
      conv => whnf
      repeat ((first | refine q1 ?_ | refine q2 ?_ | refine q3 ?_ | refine q4 ?_ | refine q5 ?_ | refine q6 ?_ | refine q7 ?_ | refine q8 ?_ | refine g1 ?_ | refine g2 ?_ | refine g3 ?_ | refine g5 ?_ | refine g6 ?_ | refine d1 ?_ | refine d2 ?_ | refine d3 ?_ | refine d4 ?_ | refine d5 ?_ | refine d6 ?_ | refine d9 ?_ | refine d10 ?_ | refine q9 ?_ | refine q10 ?_ | refine q11 ?_ | refine HM.seq ?_ | refine qk ?_ | refine HO.g ?_ | refine HO.nil ?_ | refine HM.drw mixed ?_ | refine dk ?_ | refine HD.g ?_ | refine HD.nil ?_ | refine HM.blk ?_ | refine HM.cond ?_ | refine HM.skip ?_ | refine HM.exit ?_ | refine HM.ret ?_ | rw [fL_eq] | rw [fN_eq]); conv => whnf)
      rw [hbb]
      conv => whnf
      repeat ((first | refine q1 ?_ | refine q2 ?_ | refine q3 ?_ | refine q4 ?_ | refine q5 ?_ | refine q6 ?_ | refine q7 ?_ | refine q8 ?_ | refine g1 ?_ | refine g2 ?_ | refine g3 ?_ | refine g5 ?_ | refine g6 ?_ | refine d1 ?_ | refine d2 ?_ | refine d3 ?_ | refine d4 ?_ | refine d5 ?_ | refine d6 ?_ | refine d9 ?_ | refine d10 ?_ | refine q9 ?_ | refine q10 ?_ | refine q11 ?_ | refine HM.seq ?_ | refine qk ?_ | refine HO.g ?_ | refine HO.nil ?_ | refine HM.drw mixed ?_ | refine dk ?_ | refine HD.g ?_ | refine HD.nil ?_ | refine HM.blk ?_ | refine HM.cond ?_ | refine HM.skip ?_ | refine HM.exit ?_ | refine HM.ret ?_ | rw [fL_eq] | rw [fN_eq]); conv => whnf)
      refine ⟨_, _, known_pden _, ?_⟩
      conv => whnf
      repeat ((first | refine q1 ?_ | refine q2 ?_ | refine q3 ?_ | refine q4 ?_ | refine q5 ?_ | refine q6 ?_ | refine q7 ?_ | refine q8 ?_ | refine g1 ?_ | refine g2 ?_ | refine g3 ?_ | refine g5 ?_ | refine g6 ?_ | refine d1 ?_ | refine d2 ?_ | refine d3 ?_ | refine d4 ?_ | refine d5 ?_ | refine d6 ?_ | refine d9 ?_ | refine d10 ?_ | refine q9 ?_ | refine q10 ?_ | refine q11 ?_ | refine HM.seq ?_ | refine qk ?_ | refine HO.g ?_ | refine HO.nil ?_ | refine HM.drw mixed ?_ | refine dk ?_ | refine HD.g ?_ | refine HD.nil ?_ | refine HM.blk ?_ | refine HM.cond ?_ | refine HM.skip ?_ | refine HM.exit ?_ | refine HM.ret ?_ | rw [fL_eq] | rw [fN_eq]); conv => whnf)
      exact ⟨.refl _, fun hg => ⟨hG5.end ht hx, .inr (.b _)⟩⟩
    | some x =>
      obtain ⟨v, ks, a⟩ := x
      repeat ((first | refine q1 ?_ | refine q2 ?_ | refine q3 ?_ | refine q4 ?_ | refine q5 ?_ | refine q6 ?_ | refine q7 ?_ | refine q8 ?_ | refine g1 ?_ | refine g2 ?_ | refine g3 ?_ | refine g5 ?_ | refine g6 ?_ | refine d1 ?_ | refine d2 ?_ | refine d3 ?_ | refine d4 ?_ | refine d5 ?_ | refine d6 ?_ | refine d9 ?_ | refine d10 ?_ | refine q9 ?_ | refine q10 ?_ | refine q11 ?_ | refine HM.seq ?_ | refine qk ?_ | refine HO.g ?_ | refine HO.nil ?_ | refine HM.drw mixed ?_ | refine dk ?_ | refine HD.g ?_ | refine HD.nil ?_ | refine HM.blk ?_ | refine HM.cond ?_ | refine HM.skip ?_ | refine HM.exit ?_ | refine HM.ret ?_ | rw [fL_eq] | rw [fN_eq]); conv => whnf)
      refine HM.ops ?_
      conv => whnf
      repeat ((first | refine q1 ?_ | refine q2 ?_ | refine q3 ?_ | refine q4 ?_ | refine q5 ?_ | refine q6 ?_ | refine q7 ?_ | refine q8 ?_ | refine g1 ?_ | refine g2 ?_ | refine g3 ?_ | refine g5 ?_ | refine g6 ?_ | refine d1 ?_ | refine d2 ?_ | refine d3 ?_ | refine d4 ?_ | refine d5 ?_ | refine d6 ?_ | refine d9 ?_ | refine d10 ?_ | refine q9 ?_ | refine q10 ?_ | refine q11 ?_ | refine HM.seq ?_ | refine qk ?_ | refine HO.g ?_ | refine HO.nil ?_ | refine HM.drw mixed ?_ | refine dk ?_ | refine HD.g ?_ | refine HD.nil ?_ | refine HM.blk ?_ | refine HM.cond ?_ | refine HM.skip ?_ | refine HM.exit ?_ | refine HM.ret ?_ | rw [fL_eq] | rw [fN_eq]); conv => whnf)
      refine ⟨_, _, ofB_den bs (by omega) z, ?_⟩
      rw [h]
      conv => whnf
      repeat ((first | refine q1 ?_ | refine q2 ?_ | refine q3 ?_ | refine q4 ?_ | refine q5 ?_ | refine q6 ?_ | refine q7 ?_ | refine q8 ?_ | refine g1 ?_ | refine g2 ?_ | refine g3 ?_ | refine g5 ?_ | refine g6 ?_ | refine d1 ?_ | refine d2 ?_ | refine d3 ?_ | refine d4 ?_ | refine d5 ?_ | refine d6 ?_ | refine d9 ?_ | refine d10 ?_ | refine q9 ?_ | refine q10 ?_ | refine q11 ?_ | refine HM.seq ?_ | refine qk ?_ | refine HO.g ?_ | refine HO.nil ?_ | refine HM.drw mixed ?_ | refine dk ?_ | refine HD.g ?_ | refine HD.nil ?_ | refine HM.blk ?_ | refine HM.cond ?_ | refine HM.skip ?_ | refine HM.exit ?_ | refine HM.ret ?_ | rw [fL_eq] | rw [fN_eq]); conv => whnf)
      refine HO.opA krun_alloc ?_
      have hP : (z.new (.c [.i .i64 0, .ns] 0 (some 32))).get z.n = some (.c [.i .i64 0, .ns] 0 (some 32)) := St.get_new_same _ _
      have hg2 := hg1.new (o := .c [.i .i64 0, .ns] 0 (some 32))
      have hx2 : NoX (z.new (.c [.i .i64 0, .ns] 0 (some 32))) := NoX.new hx1
      have hG2 := hG1.new (.c [.i .i64 0, .ns] 0 (some 32))
      have hPs : s.n ≤ z.n := hG1.n
      generalize z.new _ = z2 at *
      generalize z.n = X at *
      conv => whnf
      repeat ((first | refine q1 ?_ | refine q2 ?_ | refine q3 ?_ | refine q4 ?_ | refine q5 ?_ | refine q6 ?_ | refine q7 ?_ | refine q8 ?_ | refine g1 ?_ | refine g2 ?_ | refine g3 ?_ | refine g5 ?_ | refine g6 ?_ | refine d1 ?_ | refine d2 ?_ | refine d3 ?_ | refine d4 ?_ | refine d5 ?_ | refine d6 ?_ | refine d9 ?_ | refine d10 ?_ | refine q9 ?_ | refine q10 ?_ | refine q11 ?_ | refine HM.seq ?_ | refine qk ?_ | refine HO.g ?_ | refine HO.nil ?_ | refine HM.drw mixed ?_ | refine dk ?_ | refine HD.g ?_ | refine HD.nil ?_ | refine HM.blk ?_ | refine HM.cond ?_ | refine HM.skip ?_ | refine HM.exit ?_ | refine HM.ret ?_ | rw [fL_eq] | rw [fN_eq]); conv => whnf)
      refine HO.opA (krun_store (n := 2) (l := X) (o := 0) (v := .ag [.i .i64 v, ksV ks]) (cs' := [.i .i64 v, ksV ks]) (by rfl) (by rfl) hP rfl rfl (Nat.zero_le _) (by simp) rfl) ?_
      have hP3 : (z2.put X (some (.c [.i .i64 v, ksV ks] 0 (some 32)))).get X = some (.c [.i .i64 v, ksV ks] 0 (some 32)) := St.get_put_same _ _ _
      have hg3 := hg2.put (o' := .c [.i .i64 v, ksV ks] 0 (some 32)) hP
      have hx3 : NoX (z2.put X (some (.c [.i .i64 v, ksV ks] 0 (some 32)))) := NoX.put hx2
      have hG3 := hG2.put hPs (some (.c [.i .i64 v, ksV ks] 0 (some 32)))
      generalize z2.put X _ = z3 at *
      conv => whnf
      repeat ((first | refine q1 ?_ | refine q2 ?_ | refine q3 ?_ | refine q4 ?_ | refine q5 ?_ | refine q6 ?_ | refine q7 ?_ | refine q8 ?_ | refine g1 ?_ | refine g2 ?_ | refine g3 ?_ | refine g5 ?_ | refine g6 ?_ | refine d1 ?_ | refine d2 ?_ | refine d3 ?_ | refine d4 ?_ | refine d5 ?_ | refine d6 ?_ | refine d9 ?_ | refine d10 ?_ | refine q9 ?_ | refine q10 ?_ | refine q11 ?_ | refine HM.seq ?_ | refine qk ?_ | refine HO.g ?_ | refine HO.nil ?_ | refine HM.drw mixed ?_ | refine dk ?_ | refine HD.g ?_ | refine HD.nil ?_ | refine HM.blk ?_ | refine HM.cond ?_ | refine HM.skip ?_ | refine HM.exit ?_ | refine HM.ret ?_ | rw [fL_eq] | rw [fN_eq]); conv => whnf)
      refine HM.ops ?_
      conv => whnf
      repeat ((first | refine q1 ?_ | refine q2 ?_ | refine q3 ?_ | refine q4 ?_ | refine q5 ?_ | refine q6 ?_ | refine q7 ?_ | refine q8 ?_ | refine g1 ?_ | refine g2 ?_ | refine g3 ?_ | refine g5 ?_ | refine g6 ?_ | refine d1 ?_ | refine d2 ?_ | refine d3 ?_ | refine d4 ?_ | refine d5 ?_ | refine d6 ?_ | refine d9 ?_ | refine d10 ?_ | refine q9 ?_ | refine q10 ?_ | refine q11 ?_ | refine HM.seq ?_ | refine qk ?_ | refine HO.g ?_ | refine HO.nil ?_ | refine HM.drw mixed ?_ | refine dk ?_ | refine HD.g ?_ | refine HD.nil ?_ | refine HM.blk ?_ | refine HM.cond ?_ | refine HM.skip ?_ | refine HM.exit ?_ | refine HM.ret ?_ | rw [fL_eq] | rw [fN_eq]); conv => whnf)
      refine ⟨_, _, rof_den bs (by omega) z3 hx3, ?_⟩
      rw [h]
      conv => whnf
      repeat ((first | refine q1 ?_ | refine q2 ?_ | refine q3 ?_ | refine q4 ?_ | refine q5 ?_ | refine q6 ?_ | refine q7 ?_ | refine q8 ?_ | refine g1 ?_ | refine g2 ?_ | refine g3 ?_ | refine g5 ?_ | refine g6 ?_ | refine d1 ?_ | refine d2 ?_ | refine d3 ?_ | refine d4 ?_ | refine d5 ?_ | refine d6 ?_ | refine d9 ?_ | refine d10 ?_ | refine q9 ?_ | refine q10 ?_ | refine q11 ?_ | refine HM.seq ?_ | refine qk ?_ | refine HO.g ?_ | refine HO.nil ?_ | refine HM.drw mixed ?_ | refine dk ?_ | refine HD.g ?_ | refine HD.nil ?_ | refine HM.blk ?_ | refine HM.cond ?_ | refine HM.skip ?_ | refine HM.exit ?_ | refine HM.ret ?_ | rw [fL_eq] | rw [fN_eq]); conv => whnf)
      refine HO.opA krun_alloc ?_
      have hQ : (z3.new (.c [.i .i64 0, .ns] 0 (some 32))).get z3.n = some (.c [.i .i64 0, .ns] 0 (some 32)) := St.get_new_same _ _
      have hXY : X ≠ z3.n := Nat.ne_of_lt (hg3.1 _ _ hP3).1
      have hP4 : (z3.new (.c [.i .i64 0, .ns] 0 (some 32))).get X = some (.c [.i .i64 v, ksV ks] 0 (some 32)) := by rw [St.get_new_ne _ _ _ hXY]; exact hP3
      have hx4 : NoX (z3.new (.c [.i .i64 0, .ns] 0 (some 32))) := NoX.new hx3
      have hG4 := hG3.new (.c [.i .i64 0, .ns] 0 (some 32))
      have hQs : s.n ≤ z3.n := hG3.n
      generalize z3.new _ = z4 at *
      generalize z3.n = Y at *
      conv => whnf
      repeat ((first | refine q1 ?_ | refine q2 ?_ | refine q3 ?_ | refine q4 ?_ | refine q5 ?_ | refine q6 ?_ | refine q7 ?_ | refine q8 ?_ | refine g1 ?_ | refine g2 ?_ | refine g3 ?_ | refine g5 ?_ | refine g6 ?_ | refine d1 ?_ | refine d2 ?_ | refine d3 ?_ | refine d4 ?_ | refine d5 ?_ | refine d6 ?_ | refine d9 ?_ | refine d10 ?_ | refine q9 ?_ | refine q10 ?_ | refine q11 ?_ | refine HM.seq ?_ | refine qk ?_ | refine HO.g ?_ | refine HO.nil ?_ | refine HM.drw mixed ?_ | refine dk ?_ | refine HD.g ?_ | refine HD.nil ?_ | refine HM.blk ?_ | refine HM.cond ?_ | refine HM.skip ?_ | refine HM.exit ?_ | refine HM.ret ?_ | rw [fL_eq] | rw [fN_eq]); conv => whnf)
      refine HO.opA (krun_store (n := 2) (l := Y) (o := 0) (v := .ag [.i .i64 v, ksV ks]) (cs' := [.i .i64 v, ksV ks]) (by rfl) (by rfl) hQ rfl rfl (Nat.zero_le _) (by simp) rfl) ?_
      have hQ5 : (z4.put Y (some (.c [.i .i64 v, ksV ks] 0 (some 32)))).get Y = some (.c [.i .i64 v, ksV ks] 0 (some 32)) := St.get_put_same _ _ _
      have hP5 : (z4.put Y (some (.c [.i .i64 v, ksV ks] 0 (some 32)))).get X = some (.c [.i .i64 v, ksV ks] 0 (some 32)) := by rw [St.get_put_ne _ _ _ _ hXY]; exact hP4
      have hx5 : NoX (z4.put Y (some (.c [.i .i64 v, ksV ks] 0 (some 32)))) := NoX.put hx4
      have hG5 := hG4.put hQs (some (.c [.i .i64 v, ksV ks] 0 (some 32)))
      generalize z4.put Y _ = z5 at *
      conv => whnf
      repeat ((first | refine q1 ?_ | refine q2 ?_ | refine q3 ?_ | refine q4 ?_ | refine q5 ?_ | refine q6 ?_ | refine q7 ?_ | refine q8 ?_ | refine g1 ?_ | refine g2 ?_ | refine g3 ?_ | refine g5 ?_ | refine g6 ?_ | refine d1 ?_ | refine d2 ?_ | refine d3 ?_ | refine d4 ?_ | refine d5 ?_ | refine d6 ?_ | refine d9 ?_ | refine d10 ?_ | refine q9 ?_ | refine q10 ?_ | refine q11 ?_ | refine HM.seq ?_ | refine qk ?_ | refine HO.g ?_ | refine HO.nil ?_ | refine HM.drw mixed ?_ | refine dk ?_ | refine HD.g ?_ | refine HD.nil ?_ | refine HM.blk ?_ | refine HM.cond ?_ | refine HM.skip ?_ | refine HM.exit ?_ | refine HM.ret ?_ | rw [fL_eq] | rw [fN_eq]); conv => whnf)
      refine HM.ops ?_
      conv => whnf
      repeat ((first | refine q1 ?_ | refine q2 ?_ | refine q3 ?_ | refine q4 ?_ | refine q5 ?_ | refine q6 ?_ | refine q7 ?_ | refine q8 ?_ | refine g1 ?_ | refine g2 ?_ | refine g3 ?_ | refine g5 ?_ | refine g6 ?_ | refine d1 ?_ | refine d2 ?_ | refine d3 ?_ | refine d4 ?_ | refine d5 ?_ | refine d6 ?_ | refine d9 ?_ | refine d10 ?_ | refine q9 ?_ | refine q10 ?_ | refine q11 ?_ | refine HM.seq ?_ | refine qk ?_ | refine HO.g ?_ | refine HO.nil ?_ | refine HM.drw mixed ?_ | refine dk ?_ | refine HD.g ?_ | refine HD.nil ?_ | refine HM.blk ?_ | refine HM.cond ?_ | refine HM.skip ?_ | refine HM.exit ?_ | refine HM.ret ?_ | rw [fL_eq] | rw [fN_eq]); conv => whnf)
      have ha : eqZ ((a : Nat) : Int) ((a : Nat) : Int) = true := by simp [eqZ_eq]
      rw [ha]
      conv => whnf
      rw [hP5]
      conv => whnf
      repeat ((first | refine q1 ?_ | refine q2 ?_ | refine q3 ?_ | refine q4 ?_ | refine q5 ?_ | refine q6 ?_ | refine q7 ?_ | refine q8 ?_ | refine g1 ?_ | refine g2 ?_ | refine g3 ?_ | refine g5 ?_ | refine g6 ?_ | refine d1 ?_ | refine d2 ?_ | refine d3 ?_ | refine d4 ?_ | refine d5 ?_ | refine d6 ?_ | refine d9 ?_ | refine d10 ?_ | refine q9 ?_ | refine q10 ?_ | refine q11 ?_ | refine HM.seq ?_ | refine qk ?_ | refine HO.g ?_ | refine HO.nil ?_ | refine HM.drw mixed ?_ | refine dk ?_ | refine HD.g ?_ | refine HD.nil ?_ | refine HM.blk ?_ | refine HM.cond ?_ | refine HM.skip ?_ | refine HM.exit ?_ | refine HM.ret ?_ | rw [fL_eq] | rw [fN_eq]); conv => whnf)
      obtain ⟨henc, hal, hkl, hkk⟩ := ofB_enc h
      refine ⟨_, _, self17 v ks (by omega) (fun k hk => by have := hkk k hk; omega) _, ?_⟩
      conv => whnf
      repeat ((first | refine q1 ?_ | refine q2 ?_ | refine q3 ?_ | refine q4 ?_ | refine q5 ?_ | refine q6 ?_ | refine q7 ?_ | refine q8 ?_ | refine g1 ?_ | refine g2 ?_ | refine g3 ?_ | refine g5 ?_ | refine g6 ?_ | refine d1 ?_ | refine d2 ?_ | refine d3 ?_ | refine d4 ?_ | refine d5 ?_ | refine d6 ?_ | refine d9 ?_ | refine d10 ?_ | refine q9 ?_ | refine q10 ?_ | refine q11 ?_ | refine HM.seq ?_ | refine qk ?_ | refine HO.g ?_ | refine HO.nil ?_ | refine HM.drw mixed ?_ | refine dk ?_ | refine HD.g ?_ | refine HD.nil ?_ | refine HM.blk ?_ | refine HM.cond ?_ | refine HM.skip ?_ | refine HM.exit ?_ | refine HM.ret ?_ | rw [fL_eq] | rw [fN_eq]); conv => whnf)
      refine ⟨_, _, b2s_b (bs := bs) rfl, ?_⟩
      conv => whnf
      repeat ((first | refine q1 ?_ | refine q2 ?_ | refine q3 ?_ | refine q4 ?_ | refine q5 ?_ | refine q6 ?_ | refine q7 ?_ | refine q8 ?_ | refine g1 ?_ | refine g2 ?_ | refine g3 ?_ | refine g5 ?_ | refine g6 ?_ | refine d1 ?_ | refine d2 ?_ | refine d3 ?_ | refine d4 ?_ | refine d5 ?_ | refine d6 ?_ | refine d9 ?_ | refine d10 ?_ | refine q9 ?_ | refine q10 ?_ | refine q11 ?_ | refine HM.seq ?_ | refine qk ?_ | refine HO.g ?_ | refine HO.nil ?_ | refine HM.drw mixed ?_ | refine dk ?_ | refine HD.g ?_ | refine HD.nil ?_ | refine HM.blk ?_ | refine HM.cond ?_ | refine HM.skip ?_ | refine HM.exit ?_ | refine HM.ret ?_ | rw [fL_eq] | rw [fN_eq]); conv => whnf)
      refine ⟨_, _, b2s_b (bs := bs) rfl, ?_⟩
      conv => whnf
      repeat ((first | refine q1 ?_ | refine q2 ?_ | refine q3 ?_ | refine q4 ?_ | refine q5 ?_ | refine q6 ?_ | refine q7 ?_ | refine q8 ?_ | refine g1 ?_ | refine g2 ?_ | refine g3 ?_ | refine g5 ?_ | refine g6 ?_ | refine d1 ?_ | refine d2 ?_ | refine d3 ?_ | refine d4 ?_ | refine d5 ?_ | refine d6 ?_ | refine d9 ?_ | refine d10 ?_ | refine q9 ?_ | refine q10 ?_ | refine q11 ?_ | refine HM.seq ?_ | refine qk ?_ | refine HO.g ?_ | refine HO.nil ?_ | refine HM.drw mixed ?_ | refine dk ?_ | refine HD.g ?_ | refine HD.nil ?_ | refine HM.blk ?_ | refine HM.cond ?_ | refine HM.skip ?_ | refine HM.exit ?_ | refine HM.ret ?_ | rw [fL_eq] | rw [fN_eq]); conv => whnf)
      rw [hbb]
      conv => whnf
      repeat ((first | refine q1 ?_ | refine q2 ?_ | refine q3 ?_ | refine q4 ?_ | refine q5 ?_ | refine q6 ?_ | refine q7 ?_ | refine q8 ?_ | refine g1 ?_ | refine g2 ?_ | refine g3 ?_ | refine g5 ?_ | refine g6 ?_ | refine d1 ?_ | refine d2 ?_ | refine d3 ?_ | refine d4 ?_ | refine d5 ?_ | refine d6 ?_ | refine d9 ?_ | refine d10 ?_ | refine q9 ?_ | refine q10 ?_ | refine q11 ?_ | refine HM.seq ?_ | refine qk ?_ | refine HO.g ?_ | refine HO.nil ?_ | refine HM.drw mixed ?_ | refine dk ?_ | refine HD.g ?_ | refine HD.nil ?_ | refine HM.blk ?_ | refine HM.cond ?_ | refine HM.skip ?_ | refine HM.exit ?_ | refine HM.ret ?_ | rw [fL_eq] | rw [fN_eq]); conv => whnf)
      rw [hQ5]
      conv => whnf
      repeat ((first | refine q1 ?_ | refine q2 ?_ | refine q3 ?_ | refine q4 ?_ | refine q5 ?_ | refine q6 ?_ | refine q7 ?_ | refine q8 ?_ | refine g1 ?_ | refine g2 ?_ | refine g3 ?_ | refine g5 ?_ | refine g6 ?_ | refine d1 ?_ | refine d2 ?_ | refine d3 ?_ | refine d4 ?_ | refine d5 ?_ | refine d6 ?_ | refine d9 ?_ | refine d10 ?_ | refine q9 ?_ | refine q10 ?_ | refine q11 ?_ | refine HM.seq ?_ | refine qk ?_ | refine HO.g ?_ | refine HO.nil ?_ | refine HM.drw mixed ?_ | refine dk ?_ | refine HD.g ?_ | refine HD.nil ?_ | refine HM.blk ?_ | refine HM.cond ?_ | refine HM.skip ?_ | refine HM.exit ?_ | refine HM.ret ?_ | rw [fL_eq] | rw [fN_eq]); conv => whnf)
      refine ⟨_, _, byt_den v ks hkl hkk _ hx5, ?_⟩
      rw [henc]
      conv => whnf
      repeat ((first | refine q1 ?_ | refine q2 ?_ | refine q3 ?_ | refine q4 ?_ | refine q5 ?_ | refine q6 ?_ | refine q7 ?_ | refine q8 ?_ | refine g1 ?_ | refine g2 ?_ | refine g3 ?_ | refine g5 ?_ | refine g6 ?_ | refine d1 ?_ | refine d2 ?_ | refine d3 ?_ | refine d4 ?_ | refine d5 ?_ | refine d6 ?_ | refine d9 ?_ | refine d10 ?_ | refine q9 ?_ | refine q10 ?_ | refine q11 ?_ | refine HM.seq ?_ | refine qk ?_ | refine HO.g ?_ | refine HO.nil ?_ | refine HM.drw mixed ?_ | refine dk ?_ | refine HD.g ?_ | refine HD.nil ?_ | refine HM.blk ?_ | refine HM.cond ?_ | refine HM.skip ?_ | refine HM.exit ?_ | refine HM.ret ?_ | rw [fL_eq] | rw [fN_eq]); conv => whnf)
      refine ⟨_, _, b2s_b (bs := bs.take a) rfl, ?_⟩
      conv => whnf
      repeat ((first | refine q1 ?_ | refine q2 ?_ | refine q3 ?_ | refine q4 ?_ | refine q5 ?_ | refine q6 ?_ | refine q7 ?_ | refine q8 ?_ | refine g1 ?_ | refine g2 ?_ | refine g3 ?_ | refine g5 ?_ | refine g6 ?_ | refine d1 ?_ | refine d2 ?_ | refine d3 ?_ | refine d4 ?_ | refine d5 ?_ | refine d6 ?_ | refine d9 ?_ | refine d10 ?_ | refine q9 ?_ | refine q10 ?_ | refine q11 ?_ | refine HM.seq ?_ | refine qk ?_ | refine HO.g ?_ | refine HO.nil ?_ | refine HM.drw mixed ?_ | refine dk ?_ | refine HD.g ?_ | refine HD.nil ?_ | refine HM.blk ?_ | refine HM.cond ?_ | refine HM.skip ?_ | refine HM.exit ?_ | refine HM.ret ?_ | rw [fL_eq] | rw [fN_eq]); conv => whnf)
      refine ⟨_, _, slc_h (bs := bs) (a := a) rfl rfl hal, ?_⟩
      conv => whnf
      repeat ((first | refine q1 ?_ | refine q2 ?_ | refine q3 ?_ | refine q4 ?_ | refine q5 ?_ | refine q6 ?_ | refine q7 ?_ | refine q8 ?_ | refine g1 ?_ | refine g2 ?_ | refine g3 ?_ | refine g5 ?_ | refine g6 ?_ | refine d1 ?_ | refine d2 ?_ | refine d3 ?_ | refine d4 ?_ | refine d5 ?_ | refine d6 ?_ | refine d9 ?_ | refine d10 ?_ | refine q9 ?_ | refine q10 ?_ | refine q11 ?_ | refine HM.seq ?_ | refine qk ?_ | refine HO.g ?_ | refine HO.nil ?_ | refine HM.drw mixed ?_ | refine dk ?_ | refine HD.g ?_ | refine HD.nil ?_ | refine HM.blk ?_ | refine HM.cond ?_ | refine HM.skip ?_ | refine HM.exit ?_ | refine HM.ret ?_ | rw [fL_eq] | rw [fN_eq]); conv => whnf)
      refine ⟨stays_one (slc_h (bs := bs) (a := a) rfl rfl hal), ?_⟩
      conv => whnf
      repeat ((first | refine q1 ?_ | refine q2 ?_ | refine q3 ?_ | refine q4 ?_ | refine q5 ?_ | refine q6 ?_ | refine q7 ?_ | refine q8 ?_ | refine g1 ?_ | refine g2 ?_ | refine g3 ?_ | refine g5 ?_ | refine g6 ?_ | refine d1 ?_ | refine d2 ?_ | refine d3 ?_ | refine d4 ?_ | refine d5 ?_ | refine d6 ?_ | refine d9 ?_ | refine d10 ?_ | refine q9 ?_ | refine q10 ?_ | refine q11 ?_ | refine HM.seq ?_ | refine qk ?_ | refine HO.g ?_ | refine HO.nil ?_ | refine HM.drw mixed ?_ | refine dk ?_ | refine HD.g ?_ | refine HD.nil ?_ | refine HM.blk ?_ | refine HM.cond ?_ | refine HM.skip ?_ | refine HM.exit ?_ | refine HM.ret ?_ | rw [fL_eq] | rw [fN_eq]); conv => whnf)
      refine ⟨_, _, b2s_b (bs := bs.take a) rfl, ?_⟩
      conv => whnf
      repeat ((first | refine q1 ?_ | refine q2 ?_ | refine q3 ?_ | refine q4 ?_ | refine q5 ?_ | refine q6 ?_ | refine q7 ?_ | refine q8 ?_ | refine g1 ?_ | refine g2 ?_ | refine g3 ?_ | refine g5 ?_ | refine g6 ?_ | refine d1 ?_ | refine d2 ?_ | refine d3 ?_ | refine d4 ?_ | refine d5 ?_ | refine d6 ?_ | refine d9 ?_ | refine d10 ?_ | refine q9 ?_ | refine q10 ?_ | refine q11 ?_ | refine HM.seq ?_ | refine qk ?_ | refine HO.g ?_ | refine HO.nil ?_ | refine HM.drw mixed ?_ | refine dk ?_ | refine HD.g ?_ | refine HD.nil ?_ | refine HM.blk ?_ | refine HM.cond ?_ | refine HM.skip ?_ | refine HM.exit ?_ | refine HM.ret ?_ | rw [fL_eq] | rw [fN_eq]); conv => whnf)
      refine ⟨stays_one (b2s_b (bs := bs.take a) rfl), ?_⟩
      have hb2 : (bs.take a == bs.take a) = true := by simp
      conv => whnf
      repeat ((first | refine q1 ?_ | refine q2 ?_ | refine q3 ?_ | refine q4 ?_ | refine q5 ?_ | refine q6 ?_ | refine q7 ?_ | refine q8 ?_ | refine g1 ?_ | refine g2 ?_ | refine g3 ?_ | refine g5 ?_ | refine g6 ?_ | refine d1 ?_ | refine d2 ?_ | refine d3 ?_ | refine d4 ?_ | refine d5 ?_ | refine d6 ?_ | refine d9 ?_ | refine d10 ?_ | refine q9 ?_ | refine q10 ?_ | refine q11 ?_ | refine HM.seq ?_ | refine qk ?_ | refine HO.g ?_ | refine HO.nil ?_ | refine HM.drw mixed ?_ | refine dk ?_ | refine HD.g ?_ | refine HD.nil ?_ | refine HM.blk ?_ | refine HM.cond ?_ | refine HM.skip ?_ | refine HM.exit ?_ | refine HM.ret ?_ | rw [fL_eq] | rw [fN_eq]); conv => whnf)
      rw [hb2]
      conv => whnf
      repeat ((first | refine q1 ?_ | refine q2 ?_ | refine q3 ?_ | refine q4 ?_ | refine q5 ?_ | refine q6 ?_ | refine q7 ?_ | refine q8 ?_ | refine g1 ?_ | refine g2 ?_ | refine g3 ?_ | refine g5 ?_ | refine g6 ?_ | refine d1 ?_ | refine d2 ?_ | refine d3 ?_ | refine d4 ?_ | refine d5 ?_ | refine d6 ?_ | refine d9 ?_ | refine d10 ?_ | refine q9 ?_ | refine q10 ?_ | refine q11 ?_ | refine HM.seq ?_ | refine qk ?_ | refine HO.g ?_ | refine HO.nil ?_ | refine HM.drw mixed ?_ | refine dk ?_ | refine HD.g ?_ | refine HD.nil ?_ | refine HM.blk ?_ | refine HM.cond ?_ | refine HM.skip ?_ | refine HM.exit ?_ | refine HM.ret ?_ | rw [fL_eq] | rw [fN_eq]); conv => whnf)
      refine ⟨_, _, known_pden _, ?_⟩
      conv => whnf
      repeat ((first | refine q1 ?_ | refine q2 ?_ | refine q3 ?_ | refine q4 ?_ | refine q5 ?_ | refine q6 ?_ | refine q7 ?_ | refine q8 ?_ | refine g1 ?_ | refine g2 ?_ | refine g3 ?_ | refine g5 ?_ | refine g6 ?_ | refine d1 ?_ | refine d2 ?_ | refine d3 ?_ | refine d4 ?_ | refine d5 ?_ | refine d6 ?_ | refine d9 ?_ | refine d10 ?_ | refine q9 ?_ | refine q10 ?_ | refine q11 ?_ | refine HM.seq ?_ | refine qk ?_ | refine HO.g ?_ | refine HO.nil ?_ | refine HM.drw mixed ?_ | refine dk ?_ | refine HD.g ?_ | refine HD.nil ?_ | refine HM.blk ?_ | refine HM.cond ?_ | refine HM.skip ?_ | refine HM.exit ?_ | refine HM.ret ?_ | rw [fL_eq] | rw [fN_eq]); conv => whnf)
      exact ⟨.refl _, fun hg => ⟨hG5.end ht hx, .inr (.b _)⟩⟩
end Go.Proofs.YtbeoanbhnlahpaaDoor
