/-
  Contracts: the document's records, events and hits of moves. No statement stands here.
-/
import Derived.Test.YtlcpcgcegpfklaaFew
set_option linter.all false
namespace Go.Proofs.Ytlcpcgcegpfklaa
open Go Rf
set_option maxRecDepth 100000
set_option maxHeartbeats 4000000

def Sep (a b : Option Nat) : Prop := ∀ k, a = some k → b ≠ some k
theorem Sep.symm {a b : Option Nat} (h : Sep a b) : Sep b a := fun k hb ha => h k ha hb

/-- three rows that grow; an object -/
structure B3 (s : St) (z1 : Nat) (v1 : V) (X1 : List V) (z2 : Nat) (v2 : V) (X2 : List V) (z3 : Nat) (v3 : V) (X3 : List V) : Prop where
  g : Rf.Good s
  a : ∃ o1 o2 o3, Acc s z1 v1 X1 o1 ∧ Acc s z2 v2 X2 o2 ∧ Acc s z3 v3 X3 o3 ∧ Sep o1 o2 ∧ Sep o1 o3 ∧ Sep o2 o3
structure B4 (s : St) (p : Nat) (cs : List V) (z1 : Nat) (v1 : V) (X1 : List V) (z2 : Nat) (v2 : V) (X2 : List V) (z3 : Nat) (v3 : V) (X3 : List V) : Prop where
  g : Rf.Good s
  o : s.get p = some (.c cs 0 (some 62))
  a : ∃ o1 o2 o3, Acc s z1 v1 X1 o1 ∧ Acc s z2 v2 X2 o2 ∧ Acc s z3 v3 X3 o3 ∧ Sep o1 o2 ∧ Sep o1 o3 ∧ Sep o2 o3
theorem B4.rot {s : St} {p : Nat} {cs : List V} {z1 : Nat} {v1 : V} {X1 : List V} {z2 : Nat} {v2 : V} {X2 : List V} {z3 : Nat} {v3 : V} {X3 : List V} (h : B4 s p cs z1 v1 X1 z2 v2 X2 z3 v3 X3) : B4 s p cs z2 v2 X2 z3 v3 X3 z1 v1 X1 :=
  let ⟨o1, o2, o3, a1, a2, a3, s1, s2, s3⟩ := h.a
  ⟨h.g, h.o, o2, o3, o1, a2, a3, a1, s3, s1.symm, s2.symm⟩
theorem B4.b3 {s : St} {p : Nat} {cs : List V} {z1 : Nat} {v1 : V} {X1 : List V} {z2 : Nat} {v2 : V} {X2 : List V} {z3 : Nat} {v3 : V} {X3 : List V} (h : B4 s p cs z1 v1 X1 z2 v2 X2 z3 v3 X3) : B3 s z1 v1 X1 z2 v2 X2 z3 v3 X3 := ⟨h.g, h.a⟩
theorem B3.new {s : St} {z1 : Nat} {v1 : V} {X1 : List V} {z2 : Nat} {v2 : V} {X2 : List V} {z3 : Nat} {v3 : V} {X3 : List V} (h : B3 s z1 v1 X1 z2 v2 X2 z3 v3 X3) (z cs : List V) :
    B4 ((s.new (.c z 0 (some 62))).put s.n (some (.c cs 0 (some 62)))) s.n cs z1 v1 X1 z2 v2 X2 z3 v3 X3 := by
  obtain ⟨g, o1, o2, o3, a1, a2, a3, s1, s2, s3⟩ := h
  have key : ∀ k, k < s.n → ((s.new (.c z 0 (some 62))).put s.n (some (.c cs 0 (some 62)))).get k = s.get k := fun k hk => by
    rw [St.get_put_ne _ _ _ _ (Nat.ne_of_lt hk), St.get_new_ne _ _ _ (Nat.ne_of_lt hk)]
  refine ⟨g.new.put (St.get_new_same _ _), St.get_put_same _ _ _, o1, o2, o3, a1.keep fun k hk => ?_, a2.keep fun k hk => ?_, a3.keep fun k hk => ?_, s1, s2, s3⟩
  · subst hk; exact key k (a1.lt g)
  · subst hk; exact key k (a2.lt g)
  · subst hk; exact key k (a3.lt g)
theorem B4.app {s : St} {p : Nat} {cs : List V} {z1 : Nat} {v1 : V} {X1 : List V} {z2 : Nat} {v2 : V} {X2 : List V} {z3 : Nat} {v3 : V} {X3 : List V} (h : B4 s p cs z1 v1 X1 z2 v2 X2 z3 v3 X3)
    {e : List V} {x y : Arg} {t bytes n : Nat} {ag : Bool} {c ys : List V} (hx : x.ev e = v1) (hy : srcOf s z1 (y.ev e) = some (n, c)) (hr : room (X1.length + n) bytes = true) (hys : chunks ag z1 c n = ys) :
    ∃ v s', aop e s (.app t true ag z1 bytes x y) = some (v, s') ∧ B4 s' p cs z1 v (X1 ++ ys) z2 v2 X2 z3 v3 X3 := by
  obtain ⟨g, ho, o1, o2, o3, a1, a2, a3, s1, s2, s3⟩ := h
  subst hx hys
  have hp : p < s.n := (g.1 p _ ho).1
  obtain ⟨v, s', o', h1, h2, hG, hor, hn, hfr⟩ := Acc.app (t := t) (bytes := bytes) (ag := ag) g a1 hy hr
  have hne : ∀ k, k < s.n → o1 ≠ some k → o' ≠ some k := fun k hk h1 h => by
    rcases hor with e | ⟨_, e⟩
    · rw [e] at h; exact h1 h
    · rw [e] at h; cases h; omega
  have h1p : o1 ≠ some p := fun e => by subst e; rw [a1.2] at ho; cases ho
  refine ⟨v, s', h1, hG, by rw [hfr p (hne p hp h1p) hp]; exact ho, o', o2, o3, h2, a2.keep fun k hk => ?_, a3.keep fun k hk => ?_, fun k hk hk2 => ?_, fun k hk hk2 => ?_, s3⟩
  · subst hk; exact hfr k (hne k (a2.lt g) (fun e => s1 k e rfl)) (a2.lt g)
  · subst hk; exact hfr k (hne k (a3.lt g) (fun e => s2 k e rfl)) (a3.lt g)
  · subst hk2; exact hne k (a2.lt g) (fun e => s1 k e rfl) hk
  · subst hk2; exact hne k (a3.lt g) (fun e => s2 k e rfl) hk

theorem B4.step {s : St} {p : Nat} {cs : List V} {z1 : Nat} {v1 : V} {X1 : List V} {z2 : Nat} {v2 : V} {X2 : List V} {z3 : Nat} {v3 : V} {X3 : List V} (h : B4 s p cs z1 v1 X1 z2 v2 X2 z3 v3 X3)
    {e : List V} {x y : Arg} {t bytes n : Nat} {ag : Bool} {c ys : List V} (hx : x.ev e = v1) (hy : srcOf s z1 (y.ev e) = some (n, c)) (hr : room (X1.length + n) bytes = true) (hys : chunks ag z1 c n = ys) {Q : V → St → Prop}
    (k : ∀ v s', B4 s' p cs z1 v (X1 ++ ys) z2 v2 X2 z3 v3 X3 → Q v s') : ∃ v s', aop e s (.app t true ag z1 bytes x y) = some (v, s') ∧ Q v s' :=
  let ⟨v, s', h1, h2⟩ := h.app hx hy hr hys
  ⟨v, s', h1, k v s' h2⟩

section
variable {gt : Nat → Option V} {P : Program} {e : List V} {s : St} {r : List I} {next : List V → St → Prop}
theorem HO.allocA {d t : Nat} {z : List V} (h : fSet e d (.p s.n 0) fun e => HO gt P r e (s.new (.c z 0 (some t))) next) : HO gt P ({ d := some d, g := none, k := .a (.alloc t z) } :: r) e s next := by
  rw [fSet_eq] at h
  obtain ⟨e', s', h3, h4⟩ := h.out
  exact ⟨e', s', .op _ _ rfl (by rfl) h3, h4⟩
theorem HO.movA {d : Option Nat} {x : Arg} (h : fSetD e d (x.ev e) fun e => HO gt P r e s next) : HO gt P ({ d := d, g := none, k := .a (.mov x) } :: r) e s next := by
  rw [fSetD_eq] at h
  obtain ⟨e', s', h3, h4⟩ := h.out
  exact ⟨e', s', .op _ s rfl (by rfl) h3, h4⟩
theorem HO.storeA {n l o z : Nat} {a v : Arg} {cs cs' : List V} {ty : Option Nat} (ha : a.ev e = .p l o) (hg : s.get l = some (.c cs z ty)) (hv : (v.ev e).isVal = true) (hn : (v.ev e).cells.length = n) (hz : z ≤ o) (ho : o + n ≤ cs.length) (hc : setAt cs o (v.ev e).cells = cs')
    (h : HO gt P r e (s.put l (some (.c cs' z ty))) next) : HO gt P ({ d := none, g := none, k := .a (.store n a v) } :: r) e s next := by
  subst hc
  obtain ⟨e', s', h3, h4⟩ := h.out
  refine ⟨e', s', .op unV _ rfl ?_ h3, h4⟩
  show aop e s (.store n a v) = _
  simp only [aop, ha, hg]
  rw [if_pos ⟨hv, hn, ho, .inr hz⟩]
theorem HO.load1A {d l o z : Nat} {a : Arg} {cs : List V} {ty : Option Nat} {v : V} (ha : a.ev e = .p l o) (hg : s.get l = some (.c cs z ty)) (hc : cs[o]? = some v)
    (h : fSet e d v fun e => HO gt P r e s next) : HO gt P ({ d := some d, g := none, k := .a (.load1 a) } :: r) e s next := by
  rw [fSet_eq] at h
  obtain ⟨e', s', h3, h4⟩ := h.out
  refine ⟨e', s', .op v s rfl ?_ h3, h4⟩
  show aop e s (.load1 a) = _
  simp only [aop, ha, hg, hc, Option.map_some]
theorem HO.loadnA {d n l o z : Nat} {a : Arg} {cs cs' : List V} {ty : Option Nat} (ha : a.ev e = .p l o) (hg : s.get l = some (.c cs z ty)) (ho : o + n ≤ cs.length) (hc : (cs.drop o).take n = cs')
    (h : fSet e d (.ag cs') fun e => HO gt P r e s next) : HO gt P ({ d := some d, g := none, k := .a (.loadn n a) } :: r) e s next := by
  rw [fSet_eq] at h
  subst hc
  obtain ⟨e', s', h3, h4⟩ := h.out
  refine ⟨e', s', .op _ s rfl ?_ h3, h4⟩
  show aop e s (.loadn n a) = _
  simp only [aop, ha, hg]
  rw [if_pos ho]
end

def ocC (m : Mt) : List V := [.i .i64 (m.x 37), .i .i64 (m.x 38), .i .i64 (m.x 39), .i .i64 (m.x 40), .i .i64 (m.x 41), .i .i64 (m.x 42), .i .i64 (m.x 43), rlV m.rl, .i .u32 (m.x 45)]
def iV (n : Nat) : V := .i .i64 (n : Nat)
def evC (m : Mt) : List V := [.i .i64 (m.x 38), .i .i64 (m.x 39), .i .i64 (m.x 40), .i .i64 (m.x 41), .i .i64 (m.x 42), .i .i64 (m.x 43)]
theorem ev_chunk (m : Mt) : chunks true 6 (([V.ag (evC m)].map V.cells).flatten) 1 = [m.ev].map rV := chunk_single (sz := 6) rfl
def E11 (ms : List Mt) (i : Nat) (vr ve vh : V) : List V := msV ms :: .bad :: .bad :: .bad :: .bad :: vr :: ve :: vh :: .i .i64 (i : Nat) :: List.replicate 40 .bad

theorem refc_den (ms : List Mt) (hf : few6 ms) : PDen gt0 Try.prog 11 [msV ms] (.tu [rlV (recs ms), rlV (evs ms), .pu 1 ((hidx 0 ms).map iV) .u]) := by
  obtain ⟨hl, hrl, hm⟩ := hf
  have hml : ms.length ≤ maxLen := Nat.le_trans hl (by decide)
  refine PDen.hcw gnm0 hF11 (nm1 (msV_nm _)) (.tu _ (fun x hx => ?_)) ?_
  · simp only [List.mem_cons, List.not_mem_nil, or_false] at hx
    rcases hx with rfl | rfl | rfl
    · exact rlV_nm _
    · exact rlV_nm _
    · exact .pu _ _ _ (fun v hv => by obtain ⟨x, -, rfl⟩ := List.mem_map.1 hv; exact .i _ _) (fun k hk => by cases hk)
  have hlx : (ms.map Mt.v).length = ms.length := List.length_map ..
  conv => whnf
  repeat ((first | refine HO.bsl1 rfl rfl rfl ?_ | refine HC.seq ?_ | refine HC.ops ?_ | refine HO.k ?_ | refine HO.g ?_ | refine HO.nil ?_ | refine HC.drw mixed ?_ | refine HD.k ?_ | refine HD.g ?_ | refine HD.nil ?_ | refine HC.blk ?_ | refine HC.cond ?_ | refine HC.skip ?_ | refine HC.exit ?_ | refine HC.ret ?_ | rw [fL_eq] | rw [fN_eq]); conv => whnf)
  refine HC.loop gnm0 fun hg => ⟨fun n e s => ∃ (i : Nat) (vr ve vh : V), i ≤ ms.length ∧ n = ms.length - i ∧ e = E11 ms i vr ve vh ∧ B3 s 6 vr ((recs (ms.take i)).map rV) 6 ve ((evs (ms.take i)).map rV) 1 vh ((hidx 0 (ms.take i)).map iV), ⟨ms.length, fg [0, 5, 6, 7, 8] _, _, Wk.fg hg.1 hg.2, 0, .ns, .ns, .ns, Nat.zero_le _, rfl, rfl, hg, none, none, none, ⟨rfl, rfl⟩, ⟨rfl, rfl⟩, ⟨rfl, rfl⟩, fun k h => (by cases h), fun k h => (by cases h), fun k h => (by cases h)⟩, ?_⟩
  rintro n e s ⟨i, vr, ve, vh, hi, rfl, rfl, hB⟩
  conv => whnf
  repeat ((first | refine HO.bsl1 rfl rfl rfl ?_ | refine HC.seq ?_ | refine HC.ops ?_ | refine HO.k ?_ | refine HO.g ?_ | refine HO.nil ?_ | refine HC.drw mixed ?_ | refine HD.k ?_ | refine HD.g ?_ | refine HD.nil ?_ | refine HC.blk ?_ | refine HC.cond ?_ | refine HC.skip ?_ | refine HC.exit ?_ | refine HC.ret ?_ | rw [fL_eq] | rw [fN_eq]); conv => whnf)
  refine brB_iff.2 ⟨fun h1 => ?_, fun h1 => ?_⟩ <;> conv => whnf
  · have hlt : i < ms.length := by rw [ltZ_eq] at h1; simp at h1; omega
    have hmx : (ms.map Mt.v)[((i : Nat) : Int).toNat]? = some (ms[i]).v := by simp [hlt]
    have hgi : ms[i]? = some ms[i] := by simp [hlt]
    have hmi := hm ms[i] (List.getElem_mem hlt)
    generalize ms[i] = m at hmx hgi hmi
    have htk := take_at hgi
    have hra := recs_app (ms.take i) m
    have hea := evs_app (ms.take i) m
    have hha := hidx_app (ms.take i) m 0
    rw [← htk] at hra hea hha
    have hr1 := recs_take_le ms i
    have hr2 := evs_take_le ms i
    have hr3 := hits_take_le ms i
    rw [← hlen _ 0] at hr3
    rw [List.length_take, Nat.min_eq_left hi, Nat.zero_add] at hha
    repeat ((first | refine HO.bsl1 rfl rfl rfl ?_ | refine HC.seq ?_ | refine HC.ops ?_ | refine HO.k ?_ | refine HO.g ?_ | refine HO.nil ?_ | refine HC.drw mixed ?_ | refine HD.k ?_ | refine HD.g ?_ | refine HD.nil ?_ | refine HC.blk ?_ | refine HC.cond ?_ | refine HC.skip ?_ | refine HC.exit ?_ | refine HC.ret ?_ | rw [fL_eq] | rw [fN_eq]); conv => whnf)
    refine ⟨rfl, Int.natCast_nonneg _, _, hmx, ?_⟩
    conv => whnf
    repeat ((first | refine HO.bsl1 rfl rfl rfl ?_ | refine HC.seq ?_ | refine HC.ops ?_ | refine HO.k ?_ | refine HO.g ?_ | refine HO.nil ?_ | refine HC.drw mixed ?_ | refine HD.k ?_ | refine HD.g ?_ | refine HD.nil ?_ | refine HC.blk ?_ | refine HC.cond ?_ | refine HC.skip ?_ | refine HC.exit ?_ | refine HC.ret ?_ | rw [fL_eq] | rw [fN_eq]); conv => whnf)
    refine brB_iff.2 ⟨fun h2 => ?_, fun h2 => ?_⟩ <;> conv => whnf
    · have h2 : eqZ (m.x 0) 2 = false := by simpa using h2
      rw [if_neg (by rw [show isC m = false from h2]; decide), List.append_nil] at hra
      rw [if_neg (by rw [show isE m = false by unfold isE isC; rw [h2]; rfl]; decide), List.append_nil] at hea
      rw [if_neg (by rw [show isH m = false by unfold isH isC; rw [h2]; rfl]; decide), List.append_nil] at hha
      repeat ((first | refine HO.bsl1 rfl rfl rfl ?_ | refine HC.seq ?_ | refine HC.ops ?_ | refine HO.k ?_ | refine HO.g ?_ | refine HO.nil ?_ | refine HC.drw mixed ?_ | refine HD.k ?_ | refine HD.g ?_ | refine HD.nil ?_ | refine HC.blk ?_ | refine HC.cond ?_ | refine HC.skip ?_ | refine HC.exit ?_ | refine HC.ret ?_ | rw [fL_eq] | rw [fN_eq]); conv => whnf)
      rw [wrap_succ hlt hml]
      intro hg'
      exact ⟨ms.length - (i + 1), fg [0, 5, 6, 7, 8] _, _, by omega, Wk.fg hg'.1 hg'.2, i + 1, vr, ve, vh, hlt, rfl, rfl, by rw [hra, hea, hha]; exact hB⟩
    · have h2 : eqZ (m.x 0) 2 = true := by simpa using h2
      rw [if_pos (show isC m = true from h2)] at hra
      repeat ((first | refine HO.bsl1 rfl rfl rfl ?_ | refine HC.seq ?_ | refine HC.ops ?_ | refine HO.k ?_ | refine HO.g ?_ | refine HO.nil ?_ | refine HC.drw mixed ?_ | refine HD.k ?_ | refine HD.g ?_ | refine HD.nil ?_ | refine HC.blk ?_ | refine HC.cond ?_ | refine HC.skip ?_ | refine HC.exit ?_ | refine HC.ret ?_ | rw [fL_eq] | rw [fN_eq]); conv => whnf)
      refine ⟨rfl, Int.natCast_nonneg _, _, hmx, ?_⟩
      conv => whnf
      repeat ((first | refine HO.movA ?_ | refine HO.allocA ?_ | refine HO.storeA (cs' := ocC m) rfl (St.get_new_same _ _) rfl rfl (Nat.le_refl 0) (by simp) rfl ?_ | refine HO.load1A rfl (St.get_put_same _ _ _) rfl ?_ | refine HO.bsl1 rfl rfl rfl ?_ | refine HC.seq ?_ | refine HC.ops ?_ | refine HO.k ?_ | refine HO.g ?_ | refine HO.nil ?_ | refine HC.drw mixed ?_ | refine HD.k ?_ | refine HD.g ?_ | refine HD.nil ?_ | refine HC.blk ?_ | refine HC.cond ?_ | refine HC.skip ?_ | refine HC.exit ?_ | refine HC.ret ?_ | rw [fL_eq] | rw [fN_eq]); conv => whnf)
      refine B4.step (bytes := 48) (hB.new _ (ocC m)) (by rfl) (by exact src_rl _ m.rl) (room_le (by rw [List.length_map]; omega) (by omega)) (rl_cells m.rl) (fun v3 s3 hB5 => ?_)
      refine hN_abs ?_
      conv => whnf
      repeat ((first | refine HO.movA ?_ | refine HO.load1A rfl hB5.o rfl ?_ | refine HO.loadnA (cs' := evC m) rfl hB5.o (by simp [ocC]) rfl ?_ | refine HO.bsl1 rfl rfl rfl ?_ | refine HC.seq ?_ | refine HC.ops ?_ | refine HO.k ?_ | refine HO.g ?_ | refine HO.nil ?_ | refine HC.drw mixed ?_ | refine HD.k ?_ | refine HD.g ?_ | refine HD.nil ?_ | refine HC.blk ?_ | refine HC.cond ?_ | refine HC.skip ?_ | refine HC.exit ?_ | refine HC.ret ?_ | rw [fL_eq] | rw [fN_eq]); conv => whnf)
      refine brB_iff.2 ⟨fun h3 => ?_, fun h3 => ?_⟩ <;> conv => whnf
      · rw [if_pos (show isE m = true by unfold isE isC; rw [h2, h3]; rfl)] at hea
        have h4 : eqZ (m.x 37) 2 = false := by
          cases h : eqZ (m.x 37) 2
          · rfl
          · exfalso; rw [eqZ_eq] at h h3; simp at h h3; omega
        rw [if_neg (by rw [show isH m = false by unfold isH isC; rw [h2, h4]; rfl]; decide), List.append_nil] at hha
        repeat ((first | refine HO.movA ?_ | refine HO.load1A rfl hB5.o rfl ?_ | refine HO.loadnA (cs' := evC m) rfl hB5.o (by simp [ocC]) rfl ?_ | refine HO.bsl1 rfl rfl rfl ?_ | refine HC.seq ?_ | refine HC.ops ?_ | refine HO.k ?_ | refine HO.g ?_ | refine HO.nil ?_ | refine HC.drw mixed ?_ | refine HD.k ?_ | refine HD.g ?_ | refine HD.nil ?_ | refine HC.blk ?_ | refine HC.cond ?_ | refine HC.skip ?_ | refine HC.exit ?_ | refine HC.ret ?_ | rw [fL_eq] | rw [fN_eq]); conv => whnf)
        refine B4.step (bytes := 48) (c := ([V.ag (evC m)].map V.cells).flatten) hB5.rot (by rfl) (by exact src_single) (room_le (by rw [List.length_map]; omega) (by omega)) (ev_chunk m) (fun v4 s4 hB6 => ?_)
        refine hN_abs ?_
        conv => whnf
        repeat ((first | refine HO.movA ?_ | refine HO.load1A rfl hB6.o rfl ?_ | refine HO.loadnA (cs' := evC m) rfl hB6.o (by simp [ocC]) rfl ?_ | refine HO.bsl1 rfl rfl rfl ?_ | refine HC.seq ?_ | refine HC.ops ?_ | refine HO.k ?_ | refine HO.g ?_ | refine HO.nil ?_ | refine HC.drw mixed ?_ | refine HD.k ?_ | refine HD.g ?_ | refine HD.nil ?_ | refine HC.blk ?_ | refine HC.cond ?_ | refine HC.skip ?_ | refine HC.exit ?_ | refine HC.ret ?_ | rw [fL_eq] | rw [fN_eq]); conv => whnf)
        refine brB_iff.2 ⟨fun h5 => ?_, fun h5 => ?_⟩ <;> conv => whnf
        · exfalso; rw [h4] at h5; cases h5
        · repeat ((first | refine HO.movA ?_ | refine HO.load1A rfl hB6.o rfl ?_ | refine HO.loadnA (cs' := evC m) rfl hB6.o (by simp [ocC]) rfl ?_ | refine HO.bsl1 rfl rfl rfl ?_ | refine HC.seq ?_ | refine HC.ops ?_ | refine HO.k ?_ | refine HO.g ?_ | refine HO.nil ?_ | refine HC.drw mixed ?_ | refine HD.k ?_ | refine HD.g ?_ | refine HD.nil ?_ | refine HC.blk ?_ | refine HC.cond ?_ | refine HC.skip ?_ | refine HC.exit ?_ | refine HC.ret ?_ | rw [fL_eq] | rw [fN_eq]); conv => whnf)
          rw [wrap_succ hlt hml]
          intro hg'
          exact ⟨ms.length - (i + 1), fg [0, 5, 6, 7, 8] _, _, by omega, Wk.fg hg'.1 hg'.2, i + 1, _, _, _, hlt, rfl, rfl, by rw [hra, hea, hha, List.map_append]; rw [List.map_append]; exact hB6.rot.rot.b3⟩
      · rw [if_neg (by rw [show isE m = false by unfold isE isC; rw [h2, h3]; rfl]; decide), List.append_nil] at hea
        repeat ((first | refine HO.movA ?_ | refine HO.load1A rfl hB5.o rfl ?_ | refine HO.loadnA (cs' := evC m) rfl hB5.o (by simp [ocC]) rfl ?_ | refine HO.bsl1 rfl rfl rfl ?_ | refine HC.seq ?_ | refine HC.ops ?_ | refine HO.k ?_ | refine HO.g ?_ | refine HO.nil ?_ | refine HC.drw mixed ?_ | refine HD.k ?_ | refine HD.g ?_ | refine HD.nil ?_ | refine HC.blk ?_ | refine HC.cond ?_ | refine HC.skip ?_ | refine HC.exit ?_ | refine HC.ret ?_ | rw [fL_eq] | rw [fN_eq]); conv => whnf)
        refine brB_iff.2 ⟨fun h5 => ?_, fun h5 => ?_⟩ <;> conv => whnf
        · rw [if_pos (show isH m = true by unfold isH isC; rw [h2, h5]; rfl)] at hha
          repeat ((first | refine HO.movA ?_ | refine HO.load1A rfl hB5.o rfl ?_ | refine HO.loadnA (cs' := evC m) rfl hB5.o (by simp [ocC]) rfl ?_ | refine HO.bsl1 rfl rfl rfl ?_ | refine HC.seq ?_ | refine HC.ops ?_ | refine HO.k ?_ | refine HO.g ?_ | refine HO.nil ?_ | refine HC.drw mixed ?_ | refine HD.k ?_ | refine HD.g ?_ | refine HD.nil ?_ | refine HC.blk ?_ | refine HC.cond ?_ | refine HC.skip ?_ | refine HC.exit ?_ | refine HC.ret ?_ | rw [fL_eq] | rw [fN_eq]); conv => whnf)
          refine B4.step (bytes := 8) (n := 1) (ys := [iV i]) hB5.rot.rot (by rfl) (by rfl) (room_le (by rw [List.length_map]; omega) (by omega)) (by rfl) (fun v4 s4 hB6 => ?_)
          refine hN_abs ?_
          conv => whnf
          repeat ((first | refine HO.movA ?_ | refine HO.load1A rfl hB6.o rfl ?_ | refine HO.loadnA (cs' := evC m) rfl hB6.o (by simp [ocC]) rfl ?_ | refine HO.bsl1 rfl rfl rfl ?_ | refine HC.seq ?_ | refine HC.ops ?_ | refine HO.k ?_ | refine HO.g ?_ | refine HO.nil ?_ | refine HC.drw mixed ?_ | refine HD.k ?_ | refine HD.g ?_ | refine HD.nil ?_ | refine HC.blk ?_ | refine HC.cond ?_ | refine HC.skip ?_ | refine HC.exit ?_ | refine HC.ret ?_ | rw [fL_eq] | rw [fN_eq]); conv => whnf)
          rw [wrap_succ hlt hml]
          intro hg'
          exact ⟨ms.length - (i + 1), fg [0, 5, 6, 7, 8] _, _, by omega, Wk.fg hg'.1 hg'.2, i + 1, _, _, _, hlt, rfl, rfl, by rw [hra, hea, hha, List.map_append]; rw [List.map_append]; exact hB6.rot.b3⟩
        · rw [if_neg (by rw [show isH m = false by unfold isH isC; rw [h2, h5]; rfl]; decide), List.append_nil] at hha
          repeat ((first | refine HO.movA ?_ | refine HO.load1A rfl hB5.o rfl ?_ | refine HO.loadnA (cs' := evC m) rfl hB5.o (by simp [ocC]) rfl ?_ | refine HO.bsl1 rfl rfl rfl ?_ | refine HC.seq ?_ | refine HC.ops ?_ | refine HO.k ?_ | refine HO.g ?_ | refine HO.nil ?_ | refine HC.drw mixed ?_ | refine HD.k ?_ | refine HD.g ?_ | refine HD.nil ?_ | refine HC.blk ?_ | refine HC.cond ?_ | refine HC.skip ?_ | refine HC.exit ?_ | refine HC.ret ?_ | rw [fL_eq] | rw [fN_eq]); conv => whnf)
          rw [wrap_succ hlt hml]
          intro hg'
          exact ⟨ms.length - (i + 1), fg [0, 5, 6, 7, 8] _, _, by omega, Wk.fg hg'.1 hg'.2, i + 1, _, _, _, hlt, rfl, rfl, by rw [hra, hea, hha, List.map_append]; exact hB5.b3⟩
  · have hge : ms.length ≤ i := by rw [ltZ_eq] at h1; simp at h1; omega
    rw [List.take_of_length_le hge] at hB
    obtain ⟨-, o1, o2, o3, a1, a2, a3, -⟩ := hB
    have w1 := a1.vw
    have w2 := a2.vw
    have w3 := a3.vw
    repeat ((first | refine HO.movA ?_ | refine HO.bsl1 rfl rfl rfl ?_ | refine HC.seq ?_ | refine HC.ops ?_ | refine HO.k ?_ | refine HO.g ?_ | refine HO.nil ?_ | refine HC.drw mixed ?_ | refine HD.k ?_ | refine HD.g ?_ | refine HD.nil ?_ | refine HC.blk ?_ | refine HC.cond ?_ | refine HC.skip ?_ | refine HC.exit ?_ | refine HC.ret ?_ | rw [fL_eq] | rw [fN_eq]); conv => whnf)
    exact .tu _ _ (.cons w1 (.cons w2 (.cons w3 .nil)))
end Go.Proofs.Ytlcpcgcegpfklaa
