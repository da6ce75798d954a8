import Derived.Test.YthoojnjcdllgdaaGreatDoorTrt
/-
  Contract: the document's windows: the first row. No statement stands here.
-/
set_option linter.all false
namespace Go.Proofs.YthoojnjcdllgdaaGreatDoor
open Go Rf TallyP
set_option maxRecDepth 100000
set_option maxHeartbeats 4000000

theorem slN_to {e : List V} {s : St} {x y : Arg} (hx : x.ev e = .ns) (hy : y.ev e = .i .i64 0) : aop e s (.slc 3 x none (some y) none) = some (.ns, s) := by
  simp only [aop, hx, Option.map_some, Option.map_none, hy]
  delta slb
  simp [bnd]
theorem slN_fr {e : List V} {s : St} {x y : Arg} (hx : x.ev e = .ns) (hy : y.ev e = .i .i64 0) : aop e s (.slc 3 x (some y) none none) = some (.ns, s) := by
  simp only [aop, hx, Option.map_some, Option.map_none, hy]
  delta slb
  simp [bnd]
theorem app_sn {e : List V} {s : St} {x y : Arg} {v : V} {X n t sz bytes : Nat} {ag : Bool} {cells cs : List V} {ty : Option Nat} (hg : s.get X = some (.c cs 0 ty)) (hx : x.ev e = .sl sz X 0 n none) (hy : y.ev e = v) (hs : srcOf s sz v = some (0, cells)) : aop e s (.app t false ag sz bytes x y) = some (.sl sz X 0 n none, s) := by
  simp [aop, hx, hy, hs, appV, hg]
def EN (av xv ev : V) (kk : Int) (i : Nat) : List V := (av :: ev :: .bad :: .bad :: .bad :: .bad :: xv :: .ns :: .i .i64 (i : Nat) :: .i .i64 kk :: .i .i64 0 :: List.replicate 84 .bad)
theorem in1e {s z : St} {kk : Int} {L : List En} {Q : XM → List V → St → Prop} (K : Kn s z L) (av xv ev : V) (i : Nat)
    (hQ : ∀ e z', fg [0, 1, 6, 7, 8, 9, 10] e = EN av xv ev kk i → Kn s z' L → Q .nrm e z') :
    HM gt0 Tryz.prog s c9i (EN av xv ev kk i) z Q := by
  refine kgo ?_; (repeat (first | intro (X:Nat) | intro (z:St) | intro (av:V) | intro (tk:Option Nat) | (intro (K1:Kn _ _ _); (try clear K); rename Kn _ _ _ => K))); conv => whnf
  refine HM.loop gnm0 fun hg => ⟨fun n e z' => e = EN av xv ev kk i ∧ Kn s z' L,
    ⟨0, fg [0, 1, 6, 7, 8, 9, 10] _, _, WkM.fg hg, rfl, K⟩, ?_⟩
  clear K
  rintro n e z1 ⟨rfl, K⟩
  conv => whnf
  refine kgo ?_; (repeat (first | intro (X:Nat) | intro (z:St) | intro (av:V) | intro (tk:Option Nat) | (intro (K1:Kn _ _ _); (try clear K); rename Kn _ _ _ => K))); conv => whnf
  exact hQ _ _ rfl K
theorem in2e {s z : St} {kk : Int} {L : List En} {Q : XM → List V → St → Prop} (K : Kn s z L) (av xv ev : V) (i : Nat)
    (hQ : ∀ e z' X', fg [0, 1, 6, 7, 8, 9, 10] e = EI av xv ev [(kk, 0, 0)] X' kk i 0 → Kn s z' (.ob true X' (.c ([(kk, 0, 0)].flatMap c3) 0 (some 73)) :: L) → Q .nrm e z') :
    HM gt0 Tryz.prog s c9c (EN av xv ev kk i) z Q := by
  refine kgo ?_; (repeat (first | intro (X:Nat) | intro (z:St) | intro (av:V) | intro (tk:Option Nat) | (intro (K1:Kn _ _ _); (try clear K); rename Kn _ _ _ => K))); conv => whnf
  refine ⟨_, _, slN_to rfl rfl, ?_⟩
  conv => whnf
  refine kgo ?_; (repeat (first | intro (X:Nat) | intro (z:St) | intro (av:V) | intro (tk:Option Nat) | (intro (K1:Kn _ _ _); (try clear K); rename Kn _ _ _ => K))); conv => whnf
  refine ⟨_, _, app_z (v := .ns) rfl rfl rfl, ?_⟩
  conv => whnf
  refine kgo ?_; (repeat (first | intro (X:Nat) | intro (z:St) | intro (av:V) | intro (tk:Option Nat) | (intro (K1:Kn _ _ _); (try clear K); rename Kn _ _ _ => K))); conv => whnf
  obtain ⟨X1, z1, K1, ha1⟩ := mgN0 (t := 73) (ag := true) (sz := 3) (bytes := 24) (k := 1) (cells := [.i .i64 kk, .i .i64 0, .i .i64 0]) K (by decide) (room_of (by omega) (by decide))
  refine ⟨_, _, ha1 _ _ _ rfl rfl, ?_⟩
  clear K ha1; rename Kn _ _ _ => K
  conv => whnf
  refine kgo ?_; (repeat (first | intro (X:Nat) | intro (z:St) | intro (av:V) | intro (tk:Option Nat) | (intro (K1:Kn _ _ _); (try clear K); rename Kn _ _ _ => K))); conv => whnf
  refine ⟨_, _, slN_fr rfl rfl, ?_⟩
  conv => whnf
  refine ⟨stays_two (slN_fr rfl rfl) (slN_fr rfl rfl), ?_⟩
  conv => whnf
  refine kgo ?_; (repeat (first | intro (X:Nat) | intro (z:St) | intro (av:V) | intro (tk:Option Nat) | (intro (K1:Kn _ _ _); (try clear K); rename Kn _ _ _ => K))); conv => whnf
  refine ⟨_, _, app_sn (v := .ns) (K.get (w := true) .here) rfl rfl rfl, ?_⟩
  conv => whnf
  refine kgo ?_; (repeat (first | intro (X:Nat) | intro (z:St) | intro (av:V) | intro (tk:Option Nat) | (intro (K1:Kn _ _ _); (try clear K); rename Kn _ _ _ => K))); conv => whnf
  refine hQ _ _ X1 ?_ (K.cast (by simp [c3]))
  rfl
end Go.Proofs.YthoojnjcdllgdaaGreatDoor
/-
  Contract: the document's windows: a row counted up. No statement stands here.
-/
set_option linter.all false
namespace Go.Proofs.YthoojnjcdllgdaaGreatDoor
open Go Rf TallyP
set_option maxRecDepth 100000
set_option maxHeartbeats 4000000

theorem c3_set1 : ∀ (l : List Rw2) (a : Nat) (x : Rw2) (v : Int), l[a]? = some x → setAt (l.flatMap c3) (a * 3 + 1) [.i .i64 v] = (l.set a (x.1, v, x.2.2)).flatMap c3
  | [], a, x, v, h => by simp at h
  | y :: l, 0, x, v, h => by
    cases (show y = x by simpa using h)
    simp [setAt, c3]
  | y :: l, a + 1, x, v, h => by
    have ih := c3_set1 l a x v (by simpa using h)
    rw [List.set_cons_succ, List.flatMap_cons, List.flatMap_cons, ← ih]
    simp [setAt, c3, Nat.succ_mul]
theorem c3_set2 : ∀ (l : List Rw2) (a : Nat) (x : Rw2) (v : Int), l[a]? = some x → setAt (l.flatMap c3) (a * 3 + 2) [.i .i64 v] = (l.set a (x.1, x.2.1, v)).flatMap c3
  | [], a, x, v, h => by simp at h
  | y :: l, 0, x, v, h => by
    cases (show y = x by simpa using h)
    simp [setAt, c3]
  | y :: l, a + 1, x, v, h => by
    have ih := c3_set2 l a x v (by simpa using h)
    rw [List.set_cons_succ, List.flatMap_cons, List.flatMap_cons, ← ih]
    simp [setAt, c3, Nat.succ_mul]
def upR (l : List Rw2) (a : Nat) (x : Rw2) (n : Nat) : List Rw2 := l.set a (x.1, wrapF .i64 (x.2.1 + 1), wrapF .i64 (x.2.2 + n))
theorem in3 {s z : St} {X : Nat} {kk : Int} {l : List Rw2} {L : List En} {Q : XM → List V → St → Prop} (K : Kn s z (.ob true X (.c (l.flatMap c3) 0 (some 73)) :: L)) (av ev : V) (ms : List Mv) (i a : Nat) (m : Mv) (hm : (evs ms)[i]? = some m) (x : Rw2) (hx : l[a]? = some x)
    (hQ : ∀ e z', fg [0, 1, 6, 7, 8, 9, 10] e = EI av (.pu 9 ((evs ms).map Mv.o) .u) ev (upR l a x m.rl.length) X kk i a → Kn s z' (.ob true X (.c ((upR l a x m.rl.length).flatMap c3) 0 (some 73)) :: L) → Q .nrm e z') :
    HM gt0 Tryz.prog s c9s (EI av (.pu 9 ((evs ms).map Mv.o) .u) ev l X kk i a) z Q := by
  refine kgo ?_; (repeat (first | intro (X:Nat) | intro (z:St) | intro (av:V) | intro (tk:Option Nat) | (intro (K1:Kn _ _ _); (try clear K); rename Kn _ _ _ => K))); conv => whnf
  have hal : a < l.length := by
    rcases Nat.lt_or_ge a l.length with h | h
    · exact h
    · rw [List.getElem?_eq_none h] at hx; cases hx
  have hc : ∀ j, j < 3 → (l.flatMap c3)[0 + ((a : Nat) : Int).toNat * 3 + j]? = (c3 x)[j]? := fun j hj => by
    have := c3_at l a j x hx hj
    simpa using this
  have hc1 := hc 1 (by decide)
  have hc2 := hc 2 (by decide)
  simp only [c3, List.getElem?_cons_succ, List.getElem?_cons_zero] at hc1 hc2
  refine ⟨rfl, Int.natCast_nonneg _, by omega, ?_⟩
  conv => whnf
  refine kgo ?_; (repeat (first | intro (X:Nat) | intro (z:St) | intro (av:V) | intro (tk:Option Nat) | (intro (K1:Kn _ _ _); (try clear K); rename Kn _ _ _ => K))); conv => whnf
  have hX := K.get (w := true) .here
  have hlt : 0 + ((a : Nat) : Int).toNat * 3 + 1 + 1 ≤ (l.flatMap c3).length := by rw [c3_len, Int.toNat_natCast]; omega
  refine HO.opA (krun_store (n := 1) (l := X) (o := 0 + ((a : Nat) : Int).toNat * 3 + 1) (v := .i .i64 (wrapF .i64 (x.2.1 + 1))) (cs' := (l.set a (x.1, wrapF .i64 (x.2.1 + 1), x.2.2)).flatMap c3) rfl rfl hX rfl rfl (Nat.zero_le _) hlt (by simpa using (show setAt (l.flatMap c3) (a * 3 + 1) (V.i .i64 (wrapF .i64 (x.2.1 + 1))).cells = _ from c3_set1 l a x _ hx))) ?_
  have K1 := K.put (o' := .c ((l.set a (x.1, wrapF .i64 (x.2.1 + 1), x.2.2)).flatMap c3) 0 (some 73)) .here (fun h => by cases h)
  clear K; rename Kn _ _ _ => K
  obtain ⟨l2, hl2⟩ : ∃ l2, l2 = l.set a (x.1, wrapF .i64 (x.2.1 + 1), x.2.2) := ⟨_, rfl⟩
  rw [← hl2] at K ⊢
  have hx2 : l2[a]? = some (x.1, wrapF .i64 (x.2.1 + 1), x.2.2) := by rw [hl2, List.getElem?_set_self hal]
  have hll : l2.length = l.length := by rw [hl2, List.length_set]
  clear hc hc1 hc2
  have hc2 : (l2.flatMap c3)[0 + ((a : Nat) : Int).toNat * 3 + 2]? = some (.i .i64 x.2.2) := by
    have := c3_at l2 a 2 _ hx2 (by decide)
    simpa [c3] using this
  have hmm : ((evs ms).map Mv.o)[((i : Nat) : Int).toNat]? = some m.o := by simp [hm]
  conv => whnf
  refine kgo ?_; (repeat (first | intro (X:Nat) | intro (z:St) | intro (av:V) | intro (tk:Option Nat) | (intro (K1:Kn _ _ _); (try clear K); rename Kn _ _ _ => K))); conv => whnf
  have hX2 := K.get (w := true) .here
  have hlt2 : 0 + ((a : Nat) : Int).toNat * 3 + 2 + 1 ≤ (l2.flatMap c3).length := by rw [c3_len, Int.toNat_natCast]; omega
  refine HD.opA2 (krun_store (n := 1) (l := X) (o := 0 + ((a : Nat) : Int).toNat * 3 + 2) (v := .i .i64 (wrapF .i64 (x.2.2 + m.rl.length))) (cs' := (l2.set a (x.1, wrapF .i64 (x.2.1 + 1), wrapF .i64 (x.2.2 + m.rl.length))).flatMap c3) rfl rfl hX2 rfl rfl (Nat.zero_le _) hlt2 (by simpa using (show setAt (l2.flatMap c3) (a * 3 + 2) (V.i .i64 (wrapF .i64 (x.2.2 + m.rl.length))).cells = _ from c3_set2 l2 a _ _ hx2))) rfl ?_
  have K1 := K.put (o' := .c ((l2.set a (x.1, wrapF .i64 (x.2.1 + 1), wrapF .i64 (x.2.2 + m.rl.length))).flatMap c3) 0 (some 73)) .here (fun h => by cases h)
  clear K; rename Kn _ _ _ => K
  have hll2 : (l2.set a (x.1, wrapF .i64 (x.2.1 + 1), wrapF .i64 (x.2.2 + m.rl.length))).length = l.length := by rw [List.length_set, hll]
  rw [hl2, List.set_set] at K hll2 ⊢
  conv => whnf
  refine kgo ?_; (repeat (first | intro (X:Nat) | intro (z:St) | intro (av:V) | intro (tk:Option Nat) | (intro (K1:Kn _ _ _); (try clear K); rename Kn _ _ _ => K))); conv => whnf
  refine hQ _ _ ?_ K
  unfold EI upR
  rw [hll2]; rfl
end Go.Proofs.YthoojnjcdllgdaaGreatDoor
