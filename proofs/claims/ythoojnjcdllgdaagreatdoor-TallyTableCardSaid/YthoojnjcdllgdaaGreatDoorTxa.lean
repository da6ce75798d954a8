import Derived.Test.YthoojnjcdllgdaaGreatDoorTrv
/-
  Contract: the document's windows: one event counted. No statement stands here.
-/
set_option linter.all false
namespace Go.Proofs.YthoojnjcdllgdaaGreatDoor
open Go Rf TallyP
set_option maxRecDepth 100000
set_option maxHeartbeats 4000000

def tw (kk : Int) (l : List Rw2) : Nat := (l.takeWhile fun x => decide (x.1 < kk)).length
theorem tw_le (kk : Int) (l : List Rw2) : tw kk l ≤ l.length := List.Sublist.length_le (List.takeWhile_sublist _)
def incS (n : Nat) (o : Option (Int × Int)) : Int × Int := (wrapF .i64 ((o.getD (0, 0)).1 + 1), wrapF .i64 ((o.getD (0, 0)).2 + n))
theorem ins_hit {n : Nat} {kk : Int} : ∀ {l : List Rw2} {x : Rw2}, l[tw kk l]? = some x → x.1 = kk → insR ltI (incS n) kk l = upR l (tw kk l) x n
  | [], x, h, _ => by simp at h
  | y :: l, x, h, he => by
    obtain ⟨y1, y2⟩ := y
    by_cases hy : y1 < kk
    · have ht : tw kk ((y1, y2) :: l) = tw kk l + 1 := by simp [tw, List.takeWhile_cons, hy]
      rw [ht, List.getElem?_cons_succ] at h
      have ih := ins_hit (n := n) h he
      rw [ht, insR, if_pos (by simp [ltI, hy]), ih]; rfl
    · have ht : tw kk ((y1, y2) :: l) = 0 := by simp [tw, List.takeWhile_cons, hy]
      rw [ht, List.getElem?_cons_zero] at h
      cases h
      simp only at he
      subst he
      rw [ht, insR, if_neg (by simp [ltI]), if_pos rfl]; rfl
theorem ins_new {n : Nat} {kk : Int} : ∀ {l : List Rw2}, (∀ y, l[tw kk l]? = some y → y.1 ≠ kk) → insR ltI (incS n) kk l = upR (putR l (tw kk l) kk) (tw kk l) (kk, 0, 0) n
  | [], _ => rfl
  | y :: l, h => by
    obtain ⟨y1, y2⟩ := y
    by_cases hy : y1 < kk
    · have ht : tw kk ((y1, y2) :: l) = tw kk l + 1 := by simp [tw, List.takeWhile_cons, hy]
      rw [ht] at h
      have ih := ins_new (n := n) (l := l) (fun z hz => h z (by rw [List.getElem?_cons_succ]; exact hz))
      rw [ht, insR, if_pos (by simp [ltI, hy]), ih]; rfl
    · have ht : tw kk ((y1, y2) :: l) = 0 := by simp [tw, List.takeWhile_cons, hy]
      rw [ht] at h
      have hne : ¬ y1 = kk := fun e => h (y1, y2) rfl e
      rw [ht, insR, if_neg (by simpa [ltI] using hy), if_neg hne]; rfl
theorem put_at {kk : Int} {l : List Rw2} {a : Nat} (ha : a ≤ l.length) : (putR l a kk)[a]? = some (kk, 0, 0) := by
  have h : (l.take a).length = a := by rw [List.length_take]; omega
  unfold putR
  rw [List.getElem?_append_right (by omega), h, Nat.sub_self]; rfl
end Go.Proofs.YthoojnjcdllgdaaGreatDoor
/-
  Contract: the document's windows: one event counted, walked. No statement stands here.
-/
set_option linter.all false
namespace Go.Proofs.YthoojnjcdllgdaaGreatDoor
open Go Rf TallyP
set_option maxRecDepth 100000
set_option maxHeartbeats 4000000

theorem in2h {s z : St} {X : Nat} {kk : Int} {l : List Rw2} {L : List En} {Q : XM → List V → St → Prop} (K : Kn s z (.ob true X (.c (l.flatMap c3) 0 (some 73)) :: L)) (av xv ev : V) (i a : Nat) (x : Rw2) (hx : l[a]? = some x) (hk : x.1 = kk)
    (hQ : ∀ e z', fg [0, 1, 6, 7, 8, 9, 10] e = EI av xv ev l X kk i a → Kn s z' (.ob true X (.c (l.flatMap c3) 0 (some 73)) :: L) → Q .nrm e z') :
    HM gt0 Tryz.prog s c9c (EI av xv ev l X kk i a) z Q := by
  have hal : a < l.length := by
    rcases Nat.lt_or_ge a l.length with h | h
    · exact h
    · rw [List.getElem?_eq_none h] at hx; cases hx
  refine kgo ?_; (repeat (first | intro (X:Nat) | intro (z:St) | intro (av:V) | intro (tk:Option Nat) | (intro (K1:Kn _ _ _); (try clear K); rename Kn _ _ _ => K))); conv => whnf
  rw [show eqZ ((a : Nat) : Int) ((l.length : Nat) : Int) = false by rw [eqZ_eq]; simp; omega]
  conv => whnf
  have hcell : (l.flatMap c3)[0 + ((a : Nat) : Int).toNat * 3 + 0]? = some (.i .i64 x.1) := by
    have := c3_at l a 0 x hx (by decide)
    simpa [c3] using this
  refine kgo ?_; (repeat (first | intro (X:Nat) | intro (z:St) | intro (av:V) | intro (tk:Option Nat) | (intro (K1:Kn _ _ _); (try clear K); rename Kn _ _ _ => K))); conv => whnf
  refine ⟨rfl, Int.natCast_nonneg _, by omega, ?_⟩
  conv => whnf
  refine kgo ?_; (repeat (first | intro (X:Nat) | intro (z:St) | intro (av:V) | intro (tk:Option Nat) | (intro (K1:Kn _ _ _); (try clear K); rename Kn _ _ _ => K))); conv => whnf
  rw [show eqZ x.1 kk = true by rw [eqZ_eq]; simpa using hk]
  conv => whnf
  refine kgo ?_; (repeat (first | intro (X:Nat) | intro (z:St) | intro (av:V) | intro (tk:Option Nat) | (intro (K1:Kn _ _ _); (try clear K); rename Kn _ _ _ => K))); conv => whnf
  exact hQ _ _ rfl K
theorem tail {s z : St} {X : Nat} {kk : Int} {l : List Rw2} {L : List En} {Q : XM → List V → St → Prop} (hl : l.length ≤ 1000) (hp : 0 < l.length) (K : Kn s z (.ob true X (.c (l.flatMap c3) 0 (some 73)) :: L)) (av ev : V) (ms : List Mv) (i : Nat) (m : Mv) (hm : (evs ms)[i]? = some m)
    (hQ : ∀ e z' X', fg [0, 1, 6, 7, 8, 9, 10] e = EI av (.pu 9 ((evs ms).map Mv.o) .u) ev (insR ltI (incS m.rl.length) kk l) X' kk i (tw kk l) → Kn s z' (.ob true X' (.c ((insR ltI (incS m.rl.length) kk l).flatMap c3) 0 (some 73)) :: L) → Q .nrm e z') :
    HM gt0 Tryz.prog s (.seq c9i (.seq c9c c9s)) (EI av (.pu 9 ((evs ms).map Mv.o) .u) ev l X kk i 0) z Q := by
  refine HM.seq (in1 hl K av _ ev i fun e z1 he K => ?_)
  refine HM.fgt (c := .seq c9c c9s) gnm0 [0, 1, 6, 7, 8, 9, 10] fun _ => ?_
  rw [he]
  refine HM.seq (a := c9c) ?_
  by_cases hit : ∃ x, l[tw kk l]? = some x ∧ x.1 = kk
  · obtain ⟨x, hx, hk⟩ := hit
    refine in2h K av _ ev i (tw kk l) x hx hk fun e z2 he K => ?_
    refine HM.fgt (c := c9s) gnm0 [0, 1, 6, 7, 8, 9, 10] fun _ => ?_
    rw [he]
    refine in3 K av ev ms i (tw kk l) m hm x hx fun e z3 he K => ?_
    rw [ins_hit hx hk] at hQ
    exact hQ e z3 X he K
  · have hn : ∀ y, l[tw kk l]? = some y → y.1 ≠ kk := fun y hy he => hit ⟨y, hy, he⟩
    refine in2 hl hp K av _ ev i (tw kk l) (tw_le _ _) hn fun e z2 X2 he K => ?_
    refine HM.fgt (c := c9s) gnm0 [0, 1, 6, 7, 8, 9, 10] fun _ => ?_
    rw [he]
    refine in3 K av ev ms i (tw kk l) m hm (kk, 0, 0) (put_at (tw_le _ _)) fun e z3 he K => ?_
    rw [ins_new hn] at hQ
    exact hQ e z3 X2 he K
theorem tailE {s z : St} {kk : Int} {L : List En} {Q : XM → List V → St → Prop} (K : Kn s z L) (av ev : V) (ms : List Mv) (i : Nat) (m : Mv) (hm : (evs ms)[i]? = some m)
    (hQ : ∀ e z' X', fg [0, 1, 6, 7, 8, 9, 10] e = EI av (.pu 9 ((evs ms).map Mv.o) .u) ev (insR ltI (incS m.rl.length) kk []) X' kk i 0 → Kn s z' (.ob true X' (.c ((insR ltI (incS m.rl.length) kk []).flatMap c3) 0 (some 73)) :: L) → Q .nrm e z') :
    HM gt0 Tryz.prog s (.seq c9i (.seq c9c c9s)) (EN av (.pu 9 ((evs ms).map Mv.o) .u) ev kk i) z Q := by
  refine HM.seq (in1e K av _ ev i fun e z1 he K => ?_)
  refine HM.fgt (c := .seq c9c c9s) gnm0 [0, 1, 6, 7, 8, 9, 10] fun _ => ?_
  rw [he]
  refine HM.seq (a := c9c) ?_
  refine in2e K av _ ev i fun e z2 X2 he K => ?_
  refine HM.fgt (c := c9s) gnm0 [0, 1, 6, 7, 8, 9, 10] fun _ => ?_
  rw [he]
  refine in3 K av ev ms i 0 m hm (kk, 0, 0) rfl fun e z3 he K => ?_
  exact hQ e z3 X2 he K
end Go.Proofs.YthoojnjcdllgdaaGreatDoor
