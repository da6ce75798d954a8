/-
  Contract: the document's windows: a row put in. No statement stands here.
-/
import Derived.Test.YthoojnjcdllgdaaGreatDoorTrs
set_option linter.all false
namespace Go.Proofs.YthoojnjcdllgdaaGreatDoor
open Go Rf TallyP
set_option maxRecDepth 100000
set_option maxHeartbeats 4000000

theorem slc_to {e : List V} {s : St} {x y : Arg} {X n a : Nat} (hx : x.ev e = .sl 3 X 0 n none) (hy : y.ev e = .i .i64 ((a : Nat) : Int)) (ha : a ≤ n) : aop e s (.slc 3 x none (some y) none) = some (.sl 3 X 0 a none, s) := by
  simp only [aop, hx, Option.map_some, Option.map_none, hy]
  delta slb
  simp [bnd_nat ha]
theorem slc_fr {e : List V} {s : St} {x y : Arg} {X n a : Nat} (hx : x.ev e = .sl 3 X 0 n none) (hy : y.ev e = .i .i64 ((a : Nat) : Int)) (ha : a < n) : aop e s (.slc 3 x (some y) none none) = some (.sl 3 X (0 + a * 3) (n - a) none, s) := by
  simp only [aop, hx, Option.map_some, Option.map_none, hy]
  delta slb
  simp [bnd_nat (Nat.le_of_lt ha), ha]
theorem slc_en {e : List V} {s : St} {x y : Arg} {X n : Nat} {cs : List V} {t : Option Nat} (hx : x.ev e = .sl 3 X 0 n none) (hy : y.ev e = .i .i64 ((n : Nat) : Int)) (hn : 0 < n) (hg : s.get X = some (.c cs 0 t)) (hl : cs.length = n * 3) : aop e s (.slc 3 x (some y) none none) = some (.se 3 X, s) := by
  simp only [aop, hx, Option.map_some, Option.map_none, hy]
  delta slb
  simp [bnd_nat (Nat.le_refl n), hg, hl]
  omega
theorem mgN0 {s z : St} {L : List En} (K : Kn s z L) {sz bytes t k : Nat} {ag : Bool} {cells : List V} (hk : 0 < k) (hr : room k bytes = true) : ∃ l z', Kn s z' (.ob true l (.c cells 0 (some t)) :: L) ∧ ∀ (e : List V) (x y : Arg), x.ev e = .ns → srcOf z sz (y.ev e) = some (k, cells) → aop e z (.app t false ag sz bytes x y) = some (.sl sz l 0 k none, z') :=
  ⟨z.n, _, K.new rfl, fun e x y hx hy => by
    have hk0 : ¬ k = 0 := by omega
    simp [aop, hx, hy, appV, hr, hk0]⟩
theorem kill {s z : St} {L : List En} {l : Nat} (K : Kn s z L) (hl : s.n ≤ l) (hn : l ∉ nms L) : Kn s (z.put l none) L := by
  refine ⟨K.n, K.gg, fun m hm h => ?_, ⟨fun m o hm => ?_, K.g.2⟩, fun m x hm => ?_, fun e he => En.ok.keep (K.o e he) fun k hk => St.get_put_ne _ _ _ _ fun e1 => ?_, K.d⟩
  · rw [St.get_put_ne _ _ _ _ (by omega)]; exact K.r m hm h
  · by_cases e : m = l
    · subst e; rw [St.get_put_same] at hm; cases hm
    · rw [St.get_put_ne _ _ _ _ e] at hm; rw [St.put_L]; exact K.g.1 m o hm
  · by_cases e : m = l
    · subst e; rw [St.get_put_same] at hm; cases hm
    · rw [St.get_put_ne _ _ _ _ e] at hm; exact K.xm m x hm
  · subst e1; exact hn (nms_mem.2 ⟨e, he, hk⟩)
theorem mgN1 {s z : St} {L : List En} {l n k sz bytes t : Nat} {ag : Bool} {cs cells : List V} (K : Kn s z (.ob true l (.c cs 0 (some t)) :: L)) (hn : cs.length = n * sz) (hk : 0 < k) (hr : room (n + k) bytes = true) (h1 : 0 < sz) : ∃ l' z', Kn s z' (.ob true l' (.c (cs ++ cells) 0 (some t)) :: L) ∧
    ∀ (e : List V) (x y : Arg), x.ev e = .sl sz l 0 n none → srcOf z sz (y.ev e) = some (k, cells) → aop e z (.app t false ag sz bytes x y) = some (.sl sz l' 0 (n + k) none, z') := by
  have hok := K.at .here
  have hn' : l ∉ nms L := fun h => by
    have := K.d
    rw [nms_cons, List.nodup_append] at this
    exact this.2.2 l (by simp [En.nm]) l h rfl
  refine ⟨z.n, _, (kill (K.drop0 rfl) (hok.2.2.1 rfl) hn').new rfl, fun e x y hx hy => ?_⟩
  have hg := K.get (w := true) .here
  have e3 : ¬ ((n + k) * sz ≤ n * sz) := by
    have := Nat.mul_lt_mul_of_pos_right (show n < n + k by omega) h1
    omega
  have hk0 : ¬ k = 0 := by omega
  simp [aop, hx, hy, appV, hg, hr, hn, e3, hk0]
  rw [List.take_of_length_le (by omega)]
theorem stays_two {gt : Nat → Option V} {P : Program} {e : List V} {v : V} {t t' s1 s2 : St} {l : List St} {y : A} (h : aop e t y = some (v, s1)) (h' : aop e t' y = some (v, s2)) : stays gt P e v (.a y) (List.take 2 (t :: t' :: l)) := by
  simp only [List.take, stays, h, h', and_self]
theorem app_se {e : List V} {s : St} {x y : Arg} {X X' n t bytes : Nat} {ag : Bool} {cs : List V} {ty : Option Nat} (hg : s.get X = some (.c cs 0 ty)) (hx : x.ev e = .sl 3 X 0 n none) (hy : y.ev e = .se 3 X') : aop e s (.app t false ag 3 bytes x y) = some (.sl 3 X 0 n none, s) := by
  simp [aop, hx, hy, srcOf, appV, hg]
theorem c3_take (l : List Rw2) (a : Nat) : (l.take a).flatMap c3 = (l.flatMap c3).take (a * 3) := by
  induction l generalizing a with
  | nil => simp
  | cons x l ih => cases a with
    | zero => simp
    | succ a => simp only [List.take_succ_cons, List.flatMap_cons, ih]; rw [List.take_append]; simp [c3, Nat.succ_mul]
theorem c3_drop (l : List Rw2) (a : Nat) : (l.drop a).flatMap c3 = (l.flatMap c3).drop (a * 3) := by
  induction l generalizing a with
  | nil => simp
  | cons x l ih => cases a with
    | zero => simp
    | succ a => simp only [List.drop_succ_cons, List.flatMap_cons, ih]; rw [List.drop_append]; simp [c3, Nat.succ_mul]
theorem app_z {e : List V} {s : St} {x y : Arg} {v : V} {t sz bytes : Nat} {ag : Bool} {cells : List V} (hx : x.ev e = .ns) (hy : y.ev e = v) (hs : srcOf s sz v = some (0, cells)) : aop e s (.app t false ag sz bytes x y) = some (.ns, s) := by
  simp [aop, hx, hy, hs, appV]
def putR (l : List Rw2) (a : Nat) (kk : Int) : List Rw2 := l.take a ++ (kk, 0, 0) :: l.drop a
theorem in2 {s z : St} {X : Nat} {kk : Int} {l : List Rw2} {L : List En} {Q : XM → List V → St → Prop} (hl : l.length ≤ 1000) (hp : 0 < l.length) (K : Kn s z (.ob true X (.c (l.flatMap c3) 0 (some 73)) :: L)) (av xv ev : V) (i a : Nat) (ha : a ≤ l.length) (hn : ∀ y, l[a]? = some y → y.1 ≠ kk)
    (hQ : ∀ e z' X', fg [0, 1, 6, 7, 8, 9, 10] e = EI av xv ev (putR l a kk) X' kk i a → Kn s z' (.ob true X' (.c ((putR l a kk).flatMap c3) 0 (some 73)) :: L) → Q .nrm e z') :
    HM gt0 Tryz.prog s c9c (EI av xv ev l X kk i a) z Q := by
  refine kgo ?_; (repeat (first | intro (X:Nat) | intro (z:St) | intro (av:V) | intro (tk:Option Nat) | (intro (K1:Kn _ _ _); (try clear K); rename Kn _ _ _ => K))); conv => whnf
  by_cases hal : a = l.length
  · subst hal
    rw [show eqZ ((l.length : Nat) : Int) ((l.length : Nat) : Int) = true by rw [eqZ_eq]; simp]
    conv => whnf
    refine kgo ?_; (repeat (first | intro (X:Nat) | intro (z:St) | intro (av:V) | intro (tk:Option Nat) | (intro (K1:Kn _ _ _); (try clear K); rename Kn _ _ _ => K))); conv => whnf
    refine ⟨_, _, slc_to (a := l.length) rfl rfl (Nat.le_refl _), ?_⟩
    conv => whnf
    refine kgo ?_; (repeat (first | intro (X:Nat) | intro (z:St) | intro (av:V) | intro (tk:Option Nat) | (intro (K1:Kn _ _ _); (try clear K); rename Kn _ _ _ => K))); conv => whnf
    have hg0 := K.get (w := true) .here
    have hs : srcOf z 3 (.sl 3 X 0 l.length none) = some (l.length, l.flatMap c3) := by
      simp only [srcOf, hg0]
      rw [if_pos ⟨trivial, by rw [c3_len]; omega⟩, List.drop_zero, ← c3_len, List.take_length]
    obtain ⟨X1, z1, K1, ha1⟩ := mgN0 (t := 73) (ag := true) (sz := 3) (bytes := 24) (cells := l.flatMap c3) K hp (room_of (by omega) (by decide))
    refine ⟨_, _, ha1 _ _ _ rfl hs, ?_⟩
    clear K ha1; rename Kn _ _ _ => K
    have hg1 := K.get (w := true) (.there .here)
    conv => whnf
    refine kgo ?_; (repeat (first | intro (X:Nat) | intro (z:St) | intro (av:V) | intro (tk:Option Nat) | (intro (K1:Kn _ _ _); (try clear K); rename Kn _ _ _ => K))); conv => whnf
    obtain ⟨X2, z2, K1, ha2⟩ := mgN1 (k := 1) (sz := 3) (bytes := 24) (ag := true) (cells := [.i .i64 kk, .i .i64 0, .i .i64 0]) K (c3_len l) (by decide) (room_of (by omega) (by decide)) (by decide)
    refine ⟨_, _, ha2 _ _ _ rfl rfl, ?_⟩
    clear K ha2; rename Kn _ _ _ => K
    have hg2 := K.get (w := true) (.there .here)
    have hg3 := K.get (w := true) .here
    conv => whnf
    refine kgo ?_; (repeat (first | intro (X:Nat) | intro (z:St) | intro (av:V) | intro (tk:Option Nat) | (intro (K1:Kn _ _ _); (try clear K); rename Kn _ _ _ => K))); conv => whnf
    refine ⟨_, _, slc_en rfl rfl hp hg2 (c3_len l), ?_⟩
    conv => whnf
    refine ⟨stays_two (slc_en rfl rfl hp hg1 (c3_len l)) (slc_en rfl rfl hp hg0 (c3_len l)), ?_⟩
    conv => whnf
    refine kgo ?_; (repeat (first | intro (X:Nat) | intro (z:St) | intro (av:V) | intro (tk:Option Nat) | (intro (K1:Kn _ _ _); (try clear K); rename Kn _ _ _ => K))); conv => whnf
    refine ⟨_, _, app_se hg3 rfl rfl, ?_⟩
    conv => whnf
    refine kgo ?_; (repeat (first | intro (X:Nat) | intro (z:St) | intro (av:V) | intro (tk:Option Nat) | (intro (K1:Kn _ _ _); (try clear K); rename Kn _ _ _ => K))); conv => whnf
    have hpl : (putR l l.length kk).length = l.length + 1 := by simp [putR]
    refine hQ _ _ X2 ?_ ((K.drop1 rfl).cast (by simp [putR, c3]))
    unfold EI
    rw [hpl]; rfl
  · rw [show eqZ ((a : Nat) : Int) ((l.length : Nat) : Int) = false by rw [eqZ_eq]; simp; omega]
    conv => whnf
    have hx : l[a]? = some l[a] := List.getElem?_eq_getElem (by omega)
    generalize l[a] = x at hx
    have hcell : (l.flatMap c3)[0 + ((a : Nat) : Int).toNat * 3 + 0]? = some (.i .i64 x.1) := by
      have := c3_at l a 0 x hx (by decide)
      simpa [c3] using this
    refine kgo ?_; (repeat (first | intro (X:Nat) | intro (z:St) | intro (av:V) | intro (tk:Option Nat) | (intro (K1:Kn _ _ _); (try clear K); rename Kn _ _ _ => K))); conv => whnf
    refine ⟨rfl, Int.natCast_nonneg _, by omega, ?_⟩
    conv => whnf
    refine kgo ?_; (repeat (first | intro (X:Nat) | intro (z:St) | intro (av:V) | intro (tk:Option Nat) | (intro (K1:Kn _ _ _); (try clear K); rename Kn _ _ _ => K))); conv => whnf
    rw [show eqZ x.1 kk = false by rw [eqZ_eq]; simpa using hn x hx]
    conv => whnf
    refine kgo ?_; (repeat (first | intro (X:Nat) | intro (z:St) | intro (av:V) | intro (tk:Option Nat) | (intro (K1:Kn _ _ _); (try clear K); rename Kn _ _ _ => K))); conv => whnf
    refine ⟨_, _, slc_to (a := a) rfl rfl ha, ?_⟩
    conv => whnf
    refine kgo ?_; (repeat (first | intro (X:Nat) | intro (z:St) | intro (av:V) | intro (tk:Option Nat) | (intro (K1:Kn _ _ _); (try clear K); rename Kn _ _ _ => K))); conv => whnf
    have hg0 := K.get (w := true) .here
    have hct : ((l.flatMap c3).take (a * 3)) = (l.take a).flatMap c3 := by
      rw [← c3_take]
    have hcd : ((l.flatMap c3).drop (a * 3)) = (l.drop a).flatMap c3 := by
      rw [← c3_drop]
    have hs : srcOf z 3 (.sl 3 X 0 a none) = some (a, (l.take a).flatMap c3) := by
      simp only [srcOf, hg0]
      rw [if_pos ⟨trivial, by rw [c3_len]; omega⟩, List.drop_zero, hct]
    have hd : ∀ z', z'.get X = some (.c (l.flatMap c3) 0 (some 73)) → srcOf z' 3 (.sl 3 X (0 + a * 3) (l.length - a) none) = some (l.length - a, (l.drop a).flatMap c3) := by
      intro z' hz
      simp only [srcOf, hz]
      rw [if_pos ⟨trivial, by rw [c3_len]; omega⟩, Nat.zero_add, hcd, List.take_of_length_le]
      rw [c3_len, List.length_drop]; omega
    have hlt : a < l.length := by omega
    have hpl : (putR l a kk).length = a + 1 + (l.length - a) := by simp [putR]; omega
    rcases Nat.eq_zero_or_pos a with h0 | h0
    · refine ⟨.ns, z, ?_, ?_⟩
      · subst h0; exact app_z rfl rfl hs
      conv => whnf
      refine kgo ?_; (repeat (first | intro (X:Nat) | intro (z:St) | intro (av:V) | intro (tk:Option Nat) | (intro (K1:Kn _ _ _); (try clear K); rename Kn _ _ _ => K))); conv => whnf
      obtain ⟨X1, z1, K1, ha1⟩ := mgN0 (t := 73) (ag := true) (sz := 3) (bytes := 24) (k := 1) (cells := [.i .i64 kk, .i .i64 0, .i .i64 0]) K (by decide) (room_of (by omega) (by decide))
      refine ⟨_, _, ha1 _ _ _ rfl rfl, ?_⟩
      clear K ha1; rename Kn _ _ _ => K
      have hg1 := K.get (w := true) (.there .here)
      conv => whnf
      refine kgo ?_; (repeat (first | intro (X:Nat) | intro (z:St) | intro (av:V) | intro (tk:Option Nat) | (intro (K1:Kn _ _ _); (try clear K); rename Kn _ _ _ => K))); conv => whnf
      refine ⟨_, _, slc_fr (a := a) (n := l.length) rfl rfl hlt, ?_⟩
      conv => whnf
      refine ⟨stays_two (slc_fr (a := a) (n := l.length) rfl rfl hlt) (slc_fr (a := a) (n := l.length) rfl rfl hlt), ?_⟩
      conv => whnf
      refine kgo ?_; (repeat (first | intro (X:Nat) | intro (z:St) | intro (av:V) | intro (tk:Option Nat) | (intro (K1:Kn _ _ _); (try clear K); rename Kn _ _ _ => K))); conv => whnf
      obtain ⟨X3, z3, K1, ha3⟩ := mgN1 (k := l.length - a) (sz := 3) (bytes := 24) (n := 1) (ag := true) (cells := (l.drop a).flatMap c3) K rfl (by omega) (room_of (by omega) (by decide)) (by decide)
      refine ⟨_, _, ha3 _ _ _ rfl (hd _ hg1), ?_⟩
      clear K ha3; rename Kn _ _ _ => K
      conv => whnf
      refine kgo ?_; (repeat (first | intro (X:Nat) | intro (z:St) | intro (av:V) | intro (tk:Option Nat) | (intro (K1:Kn _ _ _); (try clear K); rename Kn _ _ _ => K))); conv => whnf
      refine hQ _ _ X3 ?_ ((K.drop1 rfl).cast (by subst h0; simp [putR, c3]))
      unfold EI
      rw [hpl]; subst h0; rw [Nat.zero_add]; rfl
    · obtain ⟨X1, z1, K1, ha1⟩ := mgN0 (t := 73) (ag := true) (sz := 3) (bytes := 24) (cells := (l.take a).flatMap c3) K h0 (room_of (by omega) (by decide))
      refine ⟨_, _, ha1 _ _ _ rfl hs, ?_⟩
      clear K ha1; rename Kn _ _ _ => K
      have hg1 := K.get (w := true) (.there .here)
      conv => whnf
      refine kgo ?_; (repeat (first | intro (X:Nat) | intro (z:St) | intro (av:V) | intro (tk:Option Nat) | (intro (K1:Kn _ _ _); (try clear K); rename Kn _ _ _ => K))); conv => whnf
      obtain ⟨X2, z2, K1, ha2⟩ := mgN1 (k := 1) (sz := 3) (bytes := 24) (n := a) (ag := true) (cells := [.i .i64 kk, .i .i64 0, .i .i64 0]) K (by rw [c3_len, List.length_take]; omega) (by decide) (room_of (by omega) (by decide)) (by decide)
      refine ⟨_, _, ha2 _ _ _ rfl rfl, ?_⟩
      clear K ha2; rename Kn _ _ _ => K
      have hg2 := K.get (w := true) (.there .here)
      conv => whnf
      refine kgo ?_; (repeat (first | intro (X:Nat) | intro (z:St) | intro (av:V) | intro (tk:Option Nat) | (intro (K1:Kn _ _ _); (try clear K); rename Kn _ _ _ => K))); conv => whnf
      refine ⟨_, _, slc_fr (a := a) (n := l.length) rfl rfl hlt, ?_⟩
      conv => whnf
      refine ⟨stays_two (slc_fr (a := a) (n := l.length) rfl rfl hlt) (slc_fr (a := a) (n := l.length) rfl rfl hlt), ?_⟩
      conv => whnf
      refine kgo ?_; (repeat (first | intro (X:Nat) | intro (z:St) | intro (av:V) | intro (tk:Option Nat) | (intro (K1:Kn _ _ _); (try clear K); rename Kn _ _ _ => K))); conv => whnf
      obtain ⟨X3, z3, K1, ha3⟩ := mgN1 (k := l.length - a) (sz := 3) (bytes := 24) (n := a + 1) (ag := true) (cells := (l.drop a).flatMap c3) K (by rw [List.length_append, c3_len, List.length_take, Nat.min_eq_left (by omega)]; simp; omega) (by omega) (room_of (by omega) (by decide)) (by decide)
      refine ⟨_, _, ha3 _ _ _ rfl (hd _ hg2), ?_⟩
      clear K ha3; rename Kn _ _ _ => K
      conv => whnf
      refine kgo ?_; (repeat (first | intro (X:Nat) | intro (z:St) | intro (av:V) | intro (tk:Option Nat) | (intro (K1:Kn _ _ _); (try clear K); rename Kn _ _ _ => K))); conv => whnf
      refine hQ _ _ X3 ?_ ((K.drop1 rfl).cast (by simp [putR, c3]))
      unfold EI
      rw [hpl]; rfl
end Go.Proofs.YthoojnjcdllgdaaGreatDoor
