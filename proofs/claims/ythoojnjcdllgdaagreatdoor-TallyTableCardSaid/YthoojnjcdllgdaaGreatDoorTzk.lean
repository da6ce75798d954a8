import Derived.Test.YthoojnjcdllgdaaGreatDoorTzj
/-
  The table, walked: the code's head. No statement stands here.
-/
set_option linter.all false
namespace Go.Proofs.YthoojnjcdllgdaaGreatDoor
open Go Rf TallyP
set_option maxRecDepth 100000
set_option maxHeartbeats 4000000

theorem addS {a b : List UInt8} (h : a.length + b.length < 9223372036854775808) : binV .add (.s a) (.s b) = some (.s (a ++ b)) := by
  show (if _ then _ else _) = _
  rw [if_pos h]
theorem words1_len (S : List UInt8) {t : Int} (h : i64 t) (hS : S.length ≤ 1000) : (wordsV S [t]).length ≤ 2000 := by
  have := words_len S [t] (num_cons h num_nil) 1 (Nat.le_refl 1)
  simp only [List.take_succ_cons, List.take_nil] at this
  omega
def headV (t1 t2 t3 t4 t5 t6 : Int) : List UInt8 := (((((wordsV [101, 118, 101, 110, 116, 115] [t1] ++ wordsV [32, 114, 101, 99, 111, 114, 100, 115] [t2]) ++ wordsV [32, 104, 105, 116, 115] [t3]) ++ wordsV [32, 114, 101, 113, 117, 101, 115, 116, 115] [t4]) ++ wordsV [32, 114, 101, 102, 117, 115, 101, 100] [t5]) ++ wordsV [32, 99, 108, 111, 99, 107, 115] [t6])
def tiOk (t1 t2 t3 t4 t5 t6 : Int) : Prop := i64 t1 ∧ i64 t2 ∧ i64 t3 ∧ i64 t4 ∧ i64 t5 ∧ i64 t6
theorem tab6_hd {s : St} {Q : XM → List V → St → Prop} (ms : List Mv) (len : Int) (hl : 0 < len) (hl2 : len ≤ 4503599627370496) (hms : ms.length ≤ 1000) (hn : ∀ m ∈ ms, Nm s0.L m.v) (ht : ∀ m ∈ ms, tmOk m) (t1 t2 t3 t4 t5 t6 t7 t8 : Int) (hv : (ofT ms).v = vT t1 t2 t3 t4 t5 t6 t7 t8) (hti : tiOk t1 t2 t3 t4 t5 t6) (K : Kn s s [])
    (hQ : ∀ e z' av tk, fg [0, 6, 9] e = EC6 (.pu 47 (ms.map Mv.v) .u) (.pu 3 ((refR len (evs ms)).map rwV) .u) av → Kn s z' [.ac 1 av ([headV t1 t2 t3 t4 t5 t6].map V.s) tk] → HM gt1 Tryz.prog s (nB 5 f6.body) e z' Q) :
    HM gt1 Tryz.prog s f6.body (.pu 47 (ms.map Mv.v) .u :: .i .i64 len :: List.replicate 172 .bad) s Q := by
  have d1 := of_den ms hn (Nat.le_trans hms (by decide))
  rw [hv] at d1
  obtain ⟨W1, w1⟩ : ∃ W, wordsV [101, 118, 101, 110, 116, 115] [t1] = W := ⟨_, rfl⟩
  have q1 := words1_len [101, 118, 101, 110, 116, 115] hti.1 (by decide)
  have c1 := words11_den (.x 1) [101, 118, 101, 110, 116, 115] [t1] (by decide) (by simp) (num_cons hti.1 num_nil)
  rw [w1] at q1 c1
  obtain ⟨W2, w2⟩ : ∃ W, wordsV [32, 114, 101, 99, 111, 114, 100, 115] [t2] = W := ⟨_, rfl⟩
  have q2 := words1_len [32, 114, 101, 99, 111, 114, 100, 115] hti.2.1 (by decide)
  have c2 := words11_den (.x 1) [32, 114, 101, 99, 111, 114, 100, 115] [t2] (by decide) (by simp) (num_cons hti.2.1 num_nil)
  rw [w2] at q2 c2
  obtain ⟨W3, w3⟩ : ∃ W, wordsV [32, 104, 105, 116, 115] [t3] = W := ⟨_, rfl⟩
  have q3 := words1_len [32, 104, 105, 116, 115] hti.2.2.1 (by decide)
  have c3 := words11_den (.x 1) [32, 104, 105, 116, 115] [t3] (by decide) (by simp) (num_cons hti.2.2.1 num_nil)
  rw [w3] at q3 c3
  obtain ⟨W4, w4⟩ : ∃ W, wordsV [32, 114, 101, 113, 117, 101, 115, 116, 115] [t4] = W := ⟨_, rfl⟩
  have q4 := words1_len [32, 114, 101, 113, 117, 101, 115, 116, 115] hti.2.2.2.1 (by decide)
  have c4 := words11_den (.x 1) [32, 114, 101, 113, 117, 101, 115, 116, 115] [t4] (by decide) (by simp) (num_cons hti.2.2.2.1 num_nil)
  rw [w4] at q4 c4
  obtain ⟨W5, w5⟩ : ∃ W, wordsV [32, 114, 101, 102, 117, 115, 101, 100] [t5] = W := ⟨_, rfl⟩
  have q5 := words1_len [32, 114, 101, 102, 117, 115, 101, 100] hti.2.2.2.2.1 (by decide)
  have c5 := words11_den (.x 1) [32, 114, 101, 102, 117, 115, 101, 100] [t5] (by decide) (by simp) (num_cons hti.2.2.2.2.1 num_nil)
  rw [w5] at q5 c5
  obtain ⟨W6, w6⟩ : ∃ W, wordsV [32, 99, 108, 111, 99, 107, 115] [t6] = W := ⟨_, rfl⟩
  have q6 := words1_len [32, 99, 108, 111, 99, 107, 115] hti.2.2.2.2.2 (by decide)
  have c6 := words11_den (.x 1) [32, 99, 108, 111, 99, 107, 115] [t6] (by decide) (by simp) (num_cons hti.2.2.2.2.2 num_nil)
  rw [w6] at q6 c6
  unfold headV at hQ
  rw [w1, w2, w3, w4, w5, w6] at hQ
  have hb : f6.body = .seq (sA (nB 0 f6.body)) (.seq (sA (nB 1 f6.body)) (.seq (sA (nB 2 f6.body)) (.seq (sA (nB 3 f6.body)) (.seq (sA (nB 4 f6.body)) (nB 5 f6.body))))) := rfl
  rw [hb]
  generalize nB 5 f6.body = R at hQ ⊢
  conv => whnf
  refine kgo ?_; (repeat (first | intro (X:Nat) | intro (z:St) | intro (av:V) | intro (tk:Option Nat) | (intro (K1:Kn _ _ _); (try clear K); rename Kn _ _ _ => K))); conv => whnf
  refine ⟨_, _, up0 (spans8w_den ms len hl hl2 hms hn ht _ K.x), ?_⟩
  conv => whnf
  refine kgo ?_; (repeat (first | intro (X:Nat) | intro (z:St) | intro (av:V) | intro (tk:Option Nat) | (intro (K1:Kn _ _ _); (try clear K); rename Kn _ _ _ => K))); conv => whnf
  refine ⟨_, _, pup0 d1 _, ?_⟩
  conv => whnf
  refine kgo ?_; (repeat (first | intro (X:Nat) | intro (z:St) | intro (av:V) | intro (tk:Option Nat) | (intro (K1:Kn _ _ _); (try clear K); rename Kn _ _ _ => K))); conv => whnf
  refine ⟨_, _, c1 _ K.x, ?_⟩
  conv => whnf
  have hE := K.get (w := true) .here
  refine kgo ?_; (repeat (first | intro (X:Nat) | intro (z:St) | intro (av:V) | intro (tk:Option Nat) | (intro (K1:Kn _ _ _); (try clear K); rename Kn _ _ _ => K))); conv => whnf
  refine ⟨_, _, c2 _ K.x, ?_⟩
  conv => whnf
  refine kgo ?_; (repeat (first | intro (X:Nat) | intro (z:St) | intro (av:V) | intro (tk:Option Nat) | (intro (K1:Kn _ _ _); (try clear K); rename Kn _ _ _ => K))); conv => whnf
  refine ⟨_, _, c3 _ K.x, ?_⟩
  conv => whnf
  refine kgo ?_; (repeat (first | intro (X:Nat) | intro (z:St) | intro (av:V) | intro (tk:Option Nat) | (intro (K1:Kn _ _ _); (try clear K); rename Kn _ _ _ => K))); conv => whnf
  refine ⟨_, _, c4 _ K.x, ?_⟩
  conv => whnf
  refine kgo ?_; (repeat (first | intro (X:Nat) | intro (z:St) | intro (av:V) | intro (tk:Option Nat) | (intro (K1:Kn _ _ _); (try clear K); rename Kn _ _ _ => K))); conv => whnf
  refine ⟨_, _, c5 _ K.x, ?_⟩
  conv => whnf
  refine kgo ?_; (repeat (first | intro (X:Nat) | intro (z:St) | intro (av:V) | intro (tk:Option Nat) | (intro (K1:Kn _ _ _); (try clear K); rename Kn _ _ _ => K))); conv => whnf
  refine ⟨_, _, c6 _ K.x, ?_⟩
  conv => whnf
  refine kgo ?_; (repeat (first | intro (X:Nat) | intro (z:St) | intro (av:V) | intro (tk:Option Nat) | (intro (K1:Kn _ _ _); (try clear K); rename Kn _ _ _ => K))); conv => whnf
  refine ⟨_, addS (by (try simp only [List.length_append]); omega), ?_⟩
  conv => whnf
  refine kgo ?_; (repeat (first | intro (X:Nat) | intro (z:St) | intro (av:V) | intro (tk:Option Nat) | (intro (K1:Kn _ _ _); (try clear K); rename Kn _ _ _ => K))); conv => whnf
  trace_state
  exact hQ _ _ _ _ rfl ((K.drop0 rfl).accx 1 [.s _])
end Go.Proofs.YthoojnjcdllgdaaGreatDoor
/-
  The table, walked: busiest, silence. No statement stands here.
-/
set_option linter.all false
namespace Go.Proofs.YthoojnjcdllgdaaGreatDoor
open Go Rf TallyP
set_option maxRecDepth 100000
set_option maxHeartbeats 4000000

def bzL (l : List RwP) : List (List UInt8) := (busy l).toList.map fun x => wordsV [98, 117, 115, 105, 101, 115, 116] [x.1]
def slL (o : Option Gp) : List (List UInt8) := o.toList.map fun g => wordsV [115, 105, 108, 101, 110, 99, 101] [g.1, g.2.1, g.2.2]
theorem cbz {s z : St} {Q : XM → List V → St → Prop} (ms : List Mv) (sp av : V) (tk : Option Nat) (xs : List (List UInt8)) (hxs : xs.length ≤ 600000) (hms : ms.length ≤ 1000) (hn : ∀ m ∈ ms, Nm s0.L m.v) (hw : ∀ m ∈ ms, m.wf) (hP : (refP (evs ms)).length ≤ 100000) (hok : ∀ x, busy (refP (evs ms)) = some x → i64 x.1) (K : Kn s z [.ac 1 av (xs.map V.s) tk])
    (hQ : ∀ e z' av' tk', fg [0, 6, 9] e = EC6 (.pu 47 (ms.map Mv.v) .u) sp av' → Kn s z' [.ac 1 av' ((xs ++ bzL (refP (evs ms))).map V.s) tk'] → Q .nrm e z') :
    HM gt1 Tryz.prog s (sA (nB 9 f6.body)) (EC6 (.pu 47 (ms.map Mv.v) .u) sp av) z Q := by
  have hal : (xs.map V.s).length ≤ 700000 := by simp; omega
  conv => whnf
  refine kgo ?_; (repeat (first | intro (X:Nat) | intro (z:St) | intro (av:V) | intro (tk:Option Nat) | (intro (K1:Kn _ _ _); (try clear K); rename Kn _ _ _ => K))); conv => whnf
  refine ⟨_, _, up0 (bus15_den ms hms hn hw hP _ K.x), ?_⟩
  unfold busyV
  unfold bzL at hQ
  generalize refP (evs ms) = l at hP hok hQ ⊢
  cases hb : busy l with
  | none =>
    rw [hb] at hQ
    conv => whnf
    refine kgo ?_; (repeat (first | intro (X:Nat) | intro (z:St) | intro (av:V) | intro (tk:Option Nat) | (intro (K1:Kn _ _ _); (try clear K); rename Kn _ _ _ => K))); conv => whnf
    exact hQ _ _ _ tk rfl (K.cast (by simp))
  | some y =>
    rw [hb] at hQ
    conv => whnf
    refine kgo ?_; (repeat (first | intro (X:Nat) | intro (z:St) | intro (av:V) | intro (tk:Option Nat) | (intro (K1:Kn _ _ _); (try clear K); rename Kn _ _ _ => K))); conv => whnf
    refine ⟨_, _, words11_den (.x 1) [98, 117, 115, 105, 101, 115, 116] [y.1] (by decide) (by simp) (num_cons (hok y hb) num_nil) _ K.x, ?_⟩
    conv => whnf
    refine kgo ?_; (repeat (first | intro (X:Nat) | intro (z:St) | intro (av:V) | intro (tk:Option Nat) | (intro (K1:Kn _ _ _); (try clear K); rename Kn _ _ _ => K))); conv => whnf
    exact hQ _ _ _ _ rfl (K.cast (by simp; rfl))
theorem rbz {s z : St} {Q : XM → List V → St → Prop} (ms : List Mv) (sp av : V) (tk : Option Nat) (xs : List (List UInt8)) (hxs : xs.length ≤ 600000) (hms : ms.length ≤ 1000) (hn : ∀ m ∈ ms, Nm s0.L m.v) (hP : (refP (evs ms)).length ≤ 100000) (hok : ∀ x, busy (refP (evs ms)) = some x → i64 x.1) (K : Kn s z [.ac 1 av (xs.map V.s) tk])
    (hQ : ∀ e z' av' tk', fg [0, 6, 13] e = ER7 (.pu 47 (ms.map Mv.v) .u) sp av' → Kn s z' [.ac 1 av' ((xs ++ bzL (refP (evs ms))).map V.s) tk'] → Q .nrm e z') :
    HM gt1 Tryz.prog s (sA (nB 16 f7.body)) (ER7 (.pu 47 (ms.map Mv.v) .u) sp av) z Q := by
  have hal : (xs.map V.s).length ≤ 700000 := by simp; omega
  conv => whnf
  refine kgo ?_; (repeat (first | intro (X:Nat) | intro (z:St) | intro (av:V) | intro (tk:Option Nat) | (intro (K1:Kn _ _ _); (try clear K); rename Kn _ _ _ => K))); conv => whnf
  refine ⟨_, _, up0 (bus23_den ms hms hn hP _ K.x), ?_⟩
  unfold busyV
  unfold bzL at hQ
  generalize refP (evs ms) = l at hP hok hQ ⊢
  cases hb : busy l with
  | none =>
    rw [hb] at hQ
    conv => whnf
    refine kgo ?_; (repeat (first | intro (X:Nat) | intro (z:St) | intro (av:V) | intro (tk:Option Nat) | (intro (K1:Kn _ _ _); (try clear K); rename Kn _ _ _ => K))); conv => whnf
    exact hQ _ _ _ tk rfl (K.cast (by simp))
  | some y =>
    rw [hb] at hQ
    conv => whnf
    refine kgo ?_; (repeat (first | intro (X:Nat) | intro (z:St) | intro (av:V) | intro (tk:Option Nat) | (intro (K1:Kn _ _ _); (try clear K); rename Kn _ _ _ => K))); conv => whnf
    refine ⟨_, _, words19_den (.x 1) [98, 117, 115, 105, 101, 115, 116] [y.1] (by decide) (by simp) (num_cons (hok y hb) num_nil) _ K.x, ?_⟩
    conv => whnf
    refine kgo ?_; (repeat (first | intro (X:Nat) | intro (z:St) | intro (av:V) | intro (tk:Option Nat) | (intro (K1:Kn _ _ _); (try clear K); rename Kn _ _ _ => K))); conv => whnf
    exact hQ _ _ _ _ rfl (K.cast (by simp; rfl))
theorem csl {s z : St} {Q : XM → List V → St → Prop} (ms : List Mv) (sp av : V) (tk : Option Nat) (xs : List (List UInt8)) (hxs : xs.length ≤ 600000) (hms : ms.length ≤ 1000) (hn : ∀ m ∈ ms, Nm s0.L m.v) (hok : ∀ g, silF (evs ms) = some g → i64 g.1 ∧ i64 g.2.1 ∧ i64 g.2.2) (K : Kn s z [.ac 1 av (xs.map V.s) tk])
    (hQ : ∀ e z' av' tk', fg [0, 6, 9] e = EC6 (.pu 47 (ms.map Mv.v) .u) sp av' → Kn s z' [.ac 1 av' ((xs ++ slL (silF (evs ms))).map V.s) tk'] → Q .nrm e z') :
    HM gt1 Tryz.prog s (sA (nB 10 f6.body)) (EC6 (.pu 47 (ms.map Mv.v) .u) sp av) z Q := by
  have hal : (xs.map V.s).length ≤ 700000 := by simp; omega
  conv => whnf
  refine kgo ?_; (repeat (first | intro (X:Nat) | intro (z:St) | intro (av:V) | intro (tk:Option Nat) | (intro (K1:Kn _ _ _); (try clear K); rename Kn _ _ _ => K))); conv => whnf
  refine ⟨_, _, up0 (sil16_den ms hms hn _ K.x), ?_⟩
  unfold silV
  unfold slL at hQ
  generalize silF (evs ms) = o at hok hQ ⊢
  cases o with
  | none =>
    unfold gpC
    conv => whnf
    refine kgo ?_; (repeat (first | intro (X:Nat) | intro (z:St) | intro (av:V) | intro (tk:Option Nat) | (intro (K1:Kn _ _ _); (try clear K); rename Kn _ _ _ => K))); conv => whnf
    exact hQ _ _ _ tk rfl ((K.drop0 rfl).cast (by simp))
  | some g =>
    obtain ⟨g0, g1, g2⟩ := hok g rfl
    unfold gpC
    conv => whnf
    refine kgo ?_; (repeat (first | intro (X:Nat) | intro (z:St) | intro (av:V) | intro (tk:Option Nat) | (intro (K1:Kn _ _ _); (try clear K); rename Kn _ _ _ => K))); conv => whnf
    refine kbsl3 ?_
    conv => whnf
    refine kgo ?_; (repeat (first | intro (X:Nat) | intro (z:St) | intro (av:V) | intro (tk:Option Nat) | (intro (K1:Kn _ _ _); (try clear K); rename Kn _ _ _ => K))); conv => whnf
    refine ⟨_, _, words11_den (.x 3) [115, 105, 108, 101, 110, 99, 101] [g.1, g.2.1, g.2.2] (by decide) (by simp) (num_cons g0 (num_cons g1 (num_cons g2 num_nil))) _ K.x, ?_⟩
    conv => whnf
    refine kgo ?_; (repeat (first | intro (X:Nat) | intro (z:St) | intro (av:V) | intro (tk:Option Nat) | (intro (K1:Kn _ _ _); (try clear K); rename Kn _ _ _ => K))); conv => whnf
    exact hQ _ _ _ _ rfl ((K.drop0 rfl).cast (by simp; rfl))
theorem rsl {s z : St} {Q : XM → List V → St → Prop} (ms : List Mv) (sp av : V) (tk : Option Nat) (xs : List (List UInt8)) (hxs : xs.length ≤ 600000) (hms : ms.length ≤ 1000) (hn : ∀ m ∈ ms, Nm s0.L m.v) (hP : (refP (evs ms)).length ≤ 100000) (hok : ∀ g, rsil (evs ms) (refP (evs ms)) = some g → i64 g.1 ∧ i64 g.2.1 ∧ i64 g.2.2) (K : Kn s z [.ac 1 av (xs.map V.s) tk])
    (hQ : ∀ e z' av' tk', fg [0, 6, 13] e = ER7 (.pu 47 (ms.map Mv.v) .u) sp av' → Kn s z' [.ac 1 av' ((xs ++ slL (rsil (evs ms) (refP (evs ms)))).map V.s) tk'] → Q .nrm e z') :
    HM gt1 Tryz.prog s (sA (nB 17 f7.body)) (ER7 (.pu 47 (ms.map Mv.v) .u) sp av) z Q := by
  have hal : (xs.map V.s).length ≤ 700000 := by simp; omega
  conv => whnf
  refine kgo ?_; (repeat (first | intro (X:Nat) | intro (z:St) | intro (av:V) | intro (tk:Option Nat) | (intro (K1:Kn _ _ _); (try clear K); rename Kn _ _ _ => K))); conv => whnf
  refine ⟨_, _, up0 (sil24_den ms hms hn hP _ K.x), ?_⟩
  unfold silV
  unfold slL at hQ
  generalize rsil (evs ms) (refP (evs ms)) = o at hok hQ ⊢
  cases o with
  | none =>
    unfold gpC
    conv => whnf
    refine kgo ?_; (repeat (first | intro (X:Nat) | intro (z:St) | intro (av:V) | intro (tk:Option Nat) | (intro (K1:Kn _ _ _); (try clear K); rename Kn _ _ _ => K))); conv => whnf
    exact hQ _ _ _ tk rfl ((K.drop0 rfl).cast (by simp))
  | some g =>
    obtain ⟨g0, g1, g2⟩ := hok g rfl
    unfold gpC
    conv => whnf
    refine kgo ?_; (repeat (first | intro (X:Nat) | intro (z:St) | intro (av:V) | intro (tk:Option Nat) | (intro (K1:Kn _ _ _); (try clear K); rename Kn _ _ _ => K))); conv => whnf
    refine kbsl3 ?_
    conv => whnf
    refine kgo ?_; (repeat (first | intro (X:Nat) | intro (z:St) | intro (av:V) | intro (tk:Option Nat) | (intro (K1:Kn _ _ _); (try clear K); rename Kn _ _ _ => K))); conv => whnf
    refine ⟨_, _, words19_den (.x 3) [115, 105, 108, 101, 110, 99, 101] [g.1, g.2.1, g.2.2] (by decide) (by simp) (num_cons g0 (num_cons g1 (num_cons g2 num_nil))) _ K.x, ?_⟩
    conv => whnf
    refine kgo ?_; (repeat (first | intro (X:Nat) | intro (z:St) | intro (av:V) | intro (tk:Option Nat) | (intro (K1:Kn _ _ _); (try clear K); rename Kn _ _ _ => K))); conv => whnf
    exact hQ _ _ _ _ rfl ((K.drop0 rfl).cast (by simp; rfl))
end Go.Proofs.YthoojnjcdllgdaaGreatDoor
