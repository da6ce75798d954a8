/-
  Contract: the document's sums (K). No statement stands here.
-/
import Derived.Test.YthoojnjcdllgdaaGreatDoorTxb
import Derived.Test.YthoojnjcdllgdaaGreatDoorCodeR
import Derived.Test.YthoojnjcdllgdaaGreatDoorTcell
set_option linter.all false
namespace Go.Proofs.YthoojnjcdllgdaaGreatDoor
open Go Rf TallyP
set_option maxRecDepth 100000
set_option maxHeartbeats 4000000

noncomputable def c18l : C := sI (sI (sB (sA (sB (sB (sB f21m.body))))))
noncomputable def c18b : C := sI (sA (sB c18l))
noncomputable def c18i : C := sA (sB (sB c18b))
noncomputable def c18c : C := sA (sB (sB (sB c18b)))
noncomputable def c18s : C := sB (sB (sB (sB c18b)))
abbrev RwK := (Int × Int) × (Int × Int)
def csK (x : RwK) : List V := [.i .i64 x.1.1, .i .i64 x.1.2, .i .i64 x.2.1, .i .i64 x.2.2]
theorem csK_l (x : RwK) : (csK x).length = 4 := rfl
def keyK (m : Mv) : (Int × Int) := (m.to, m.kd)
def s0K (m : Mv) : (Int × Int) := (0, 0)
def gK (m : Mv) (s : (Int × Int)) : (Int × Int) := (wrapF .i64 (s.1 + 1), wrapF .i64 (s.2 + m.rl.length))
def fK (m : Mv) (o : Option (Int × Int)) : (Int × Int) := gK m (o.getD (s0K m))
def EK (xv rv : V) (i E a : Nat) : List V := (.bad :: .bad :: .bad :: xv :: rv :: .i .i64 (i : Nat) :: .p E 0 :: .i .i64 (a : Nat) :: List.replicate 113 .bad)
def LLK (l : List RwK) (X E : Nat) (m : Mv) (L : List En) : List En := .ob true X (.c (l.flatMap csK) 0 (some 71)) :: .ob true E (.c m.e 0 (some 38)) :: L
theorem atK {l : List RwK} {a : Nat} {x : RwK} (hx : l[a]? = some x) (j : Nat) (hj : j < 4) : (l.flatMap csK)[0 + ((a : Nat) : Int).toNat * 4 + j]? = (csK x)[j]? := by
  have := cr_at csK_l l a j x hx hj
  simpa using this
theorem in1K {s z : St} {X E : Nat} {l : List RwK} {L : List En} {m : Mv} {Q : XM → List V → St → Prop} (hl : l.length ≤ 1000) (K : Kn s z (LLK l X E m L)) (xv : V) (i : Nat)
    (hQ : ∀ e z', fg [3, 4, 5, 6, 7] e = EK xv (.sl 4 X 0 l.length none) i E (twG ltP (keyK m) l) → Kn s z' (LLK l X E m L) → Q .nrm e z') :
    HM gt0 Tryz.prog s c18i (EK xv (.sl 4 X 0 l.length none) i E 0) z Q := by
  unfold LLK at K
  refine kgo ?_; (repeat (first | intro (X:Nat) | intro (z:St) | intro (av:V) | intro (tk:Option Nat) | (intro (K1:Kn _ _ _); (try clear K); rename Kn _ _ _ => K))); conv => whnf
  refine HM.loop gnm0 fun hg => ⟨fun n e z' => ∃ a : Nat, a ≤ l.length ∧ n = l.length - a ∧ e = EK xv (.sl 4 X 0 l.length none) i E a ∧ (∀ x ∈ l.take a, ltP x.1 (keyK m) = true) ∧ Kn s z' (LLK l X E m L),
    ⟨l.length, fg [3, 4, 5, 6, 7] _, _, WkM.fg hg, 0, Nat.zero_le _, rfl, rfl, fun x hx => by simp at hx, K⟩, ?_⟩
  clear K
  rintro n e z1 ⟨a, ha, rfl, rfl, hlt, K⟩
  unfold LLK at K
  conv => whnf
  refine kgo ?_; (repeat (first | intro (X:Nat) | intro (z:St) | intro (av:V) | intro (tk:Option Nat) | (intro (K1:Kn _ _ _); (try clear K); rename Kn _ _ _ => K))); conv => whnf
  cases hc : ltZ ((a : Nat) : Int) ((l.length : Nat) : Int) <;> conv => whnf
  · refine kgo ?_; (repeat (first | intro (X:Nat) | intro (z:St) | intro (av:V) | intro (tk:Option Nat) | (intro (K1:Kn _ _ _); (try clear K); rename Kn _ _ _ => K))); conv => whnf
    have hal : a = l.length := by rw [ltZ_eq] at hc; simp at hc; omega
    refine hQ _ _ ?_ K
    rw [twG_is ha hlt (fun y hy => by rw [List.getElem?_eq_none (by omega)] at hy; cases hy)]
    rfl
  · have hal : a < l.length := by rw [ltZ_eq] at hc; simp at hc; omega
    have hx : l[a]? = some l[a] := List.getElem?_eq_getElem hal
    generalize l[a] = x at hx
    have hstop : ltP x.1 (keyK m) = false → twG ltP (keyK m) l = a := fun h => twG_is ha hlt (fun y hy => by rw [hx] at hy; cases hy; exact h)
    have hgo : ltP x.1 (keyK m) = true → ∀ y ∈ l.take (a + 1), ltP y.1 (keyK m) = true := fun h y hy => by
      rw [List.take_add_one, hx] at hy
      rcases List.mem_append.1 hy with hy | hy
      · exact hlt y hy
      · simp at hy; subst hy; exact h
    have hc0 := atK hx 0 (by decide)
    have hc1 := atK hx 1 (by decide)
    simp only [csK, List.getElem?_cons_succ, List.getElem?_cons_zero] at hc0 hc1
    refine kgo ?_; (repeat (first | intro (X:Nat) | intro (z:St) | intro (av:V) | intro (tk:Option Nat) | (intro (K1:Kn _ _ _); (try clear K); rename Kn _ _ _ => K))); conv => whnf
    refine ⟨rfl, Int.natCast_nonneg _, by omega, ?_⟩
    conv => whnf
    refine kgo ?_; (repeat (first | intro (X:Nat) | intro (z:St) | intro (av:V) | intro (tk:Option Nat) | (intro (K1:Kn _ _ _); (try clear K); rename Kn _ _ _ => K))); conv => whnf
    cases hk1 : ltZ x.1.1 m.to <;> conv => whnf
    · refine kgo ?_; (repeat (first | intro (X:Nat) | intro (z:St) | intro (av:V) | intro (tk:Option Nat) | (intro (K1:Kn _ _ _); (try clear K); rename Kn _ _ _ => K))); conv => whnf
      refine ⟨rfl, Int.natCast_nonneg _, by omega, ?_⟩
      conv => whnf
      refine kgo ?_; (repeat (first | intro (X:Nat) | intro (z:St) | intro (av:V) | intro (tk:Option Nat) | (intro (K1:Kn _ _ _); (try clear K); rename Kn _ _ _ => K))); conv => whnf
      cases hk2 : eqZ x.1.1 m.to <;> conv => whnf
      · refine kgo ?_; (repeat (first | intro (X:Nat) | intro (z:St) | intro (av:V) | intro (tk:Option Nat) | (intro (K1:Kn _ _ _); (try clear K); rename Kn _ _ _ => K))); conv => whnf
        refine hQ _ _ ?_ K
        rw [hstop (by exact ltp_1 hk1 hk2)]
        rfl
      · refine kgo ?_; (repeat (first | intro (X:Nat) | intro (z:St) | intro (av:V) | intro (tk:Option Nat) | (intro (K1:Kn _ _ _); (try clear K); rename Kn _ _ _ => K))); conv => whnf
        refine ⟨rfl, Int.natCast_nonneg _, by omega, ?_⟩
        conv => whnf
        refine kgo ?_; (repeat (first | intro (X:Nat) | intro (z:St) | intro (av:V) | intro (tk:Option Nat) | (intro (K1:Kn _ _ _); (try clear K); rename Kn _ _ _ => K))); conv => whnf
        cases hk3 : ltZ x.1.2 m.kd <;> conv => whnf
        · refine kgo ?_; (repeat (first | intro (X:Nat) | intro (z:St) | intro (av:V) | intro (tk:Option Nat) | (intro (K1:Kn _ _ _); (try clear K); rename Kn _ _ _ => K))); conv => whnf
          refine hQ _ _ ?_ K
          rw [hstop (by exact ltp_2 hk1 hk3)]
          rfl
        · refine kgo ?_; (repeat (first | intro (X:Nat) | intro (z:St) | intro (av:V) | intro (tk:Option Nat) | (intro (K1:Kn _ _ _); (try clear K); rename Kn _ _ _ => K))); conv => whnf
          intro hg'
          exact ⟨l.length - (a + 1), fg [3, 4, 5, 6, 7] _, _, by omega, WkM.fg hg', a + 1, hal, rfl, rfl, hgo (by exact ltp_3 hk2 hk3), K⟩
    · refine kgo ?_; (repeat (first | intro (X:Nat) | intro (z:St) | intro (av:V) | intro (tk:Option Nat) | (intro (K1:Kn _ _ _); (try clear K); rename Kn _ _ _ => K))); conv => whnf
      intro hg'
      exact ⟨l.length - (a + 1), fg [3, 4, 5, 6, 7] _, _, by omega, WkM.fg hg', a + 1, hal, rfl, rfl, hgo (by exact ltp_4 hk1), K⟩
theorem in1eK {s z : St} {L : List En} {Q : XM → List V → St → Prop} (K : Kn s z L) (xv : V) (i E : Nat)
    (hQ : ∀ e z', fg [3, 4, 5, 6, 7] e = EK xv .ns i E 0 → Kn s z' L → Q .nrm e z') :
    HM gt0 Tryz.prog s c18i (EK xv .ns i E 0) z Q := by
  refine kgo ?_; (repeat (first | intro (X:Nat) | intro (z:St) | intro (av:V) | intro (tk:Option Nat) | (intro (K1:Kn _ _ _); (try clear K); rename Kn _ _ _ => K))); conv => whnf
  refine HM.loop gnm0 fun hg => ⟨fun n e z' => e = EK xv .ns i E 0 ∧ Kn s z' L,
    ⟨0, fg [3, 4, 5, 6, 7] _, _, WkM.fg hg, rfl, K⟩, ?_⟩
  clear K
  rintro n e z1 ⟨rfl, K⟩
  conv => whnf
  refine kgo ?_; (repeat (first | intro (X:Nat) | intro (z:St) | intro (av:V) | intro (tk:Option Nat) | (intro (K1:Kn _ _ _); (try clear K); rename Kn _ _ _ => K))); conv => whnf
  exact hQ _ _ rfl K
theorem in2eK {s z : St} {E : Nat} {m : Mv} {L : List En} {Q : XM → List V → St → Prop} (K : Kn s z (.ob true E (.c m.e 0 (some 38)) :: L)) (xv : V) (i : Nat)
    (hQ : ∀ e z' X', fg [3, 4, 5, 6, 7] e = EK xv (.sl 4 X' 0 1 none) i E 0 → Kn s z' (LLK [(keyK m, s0K m)] X' E m L) → Q .nrm e z') :
    HM gt0 Tryz.prog s c18c (EK xv .ns i E 0) z Q := by
  refine kgo ?_; (repeat (first | intro (X:Nat) | intro (z:St) | intro (av:V) | intro (tk:Option Nat) | (intro (K1:Kn _ _ _); (try clear K); rename Kn _ _ _ => K))); conv => whnf
  refine ⟨_, _, slGN_to rfl rfl, ?_⟩
  conv => whnf
  refine kgo ?_; (repeat (first | intro (X:Nat) | intro (z:St) | intro (av:V) | intro (tk:Option Nat) | (intro (K1:Kn _ _ _); (try clear K); rename Kn _ _ _ => K))); conv => whnf
  refine ⟨_, _, app_z (v := .ns) rfl rfl rfl, ?_⟩
  conv => whnf
  have hE := K.get (w := true) .here
  refine kgo ?_; (repeat (first | intro (X:Nat) | intro (z:St) | intro (av:V) | intro (tk:Option Nat) | (intro (K1:Kn _ _ _); (try clear K); rename Kn _ _ _ => K))); conv => whnf
  obtain ⟨X1, z1, K1, ha1⟩ := mgN0 (t := 71) (ag := true) (sz := 4) (bytes := 32) (k := 1) (cells := [.i .i64 m.to, .i .i64 m.kd, .i .i64 0, .i .i64 0]) K (by decide) (room_of (by omega) (by decide))
  refine ⟨_, _, ha1 _ _ _ rfl rfl, ?_⟩
  clear K ha1; rename Kn _ _ _ => K
  conv => whnf
  refine kgo ?_; (repeat (first | intro (X:Nat) | intro (z:St) | intro (av:V) | intro (tk:Option Nat) | (intro (K1:Kn _ _ _); (try clear K); rename Kn _ _ _ => K))); conv => whnf
  refine ⟨_, _, slGN_fr rfl rfl, ?_⟩
  conv => whnf
  refine ⟨stays_two (slGN_fr rfl rfl) (slGN_fr rfl rfl), ?_⟩
  conv => whnf
  refine kgo ?_; (repeat (first | intro (X:Nat) | intro (z:St) | intro (av:V) | intro (tk:Option Nat) | (intro (K1:Kn _ _ _); (try clear K); rename Kn _ _ _ => K))); conv => whnf
  refine ⟨_, _, app_sn (v := .ns) (K.get (w := true) .here) rfl rfl rfl, ?_⟩
  conv => whnf
  refine kgo ?_; (repeat (first | intro (X:Nat) | intro (z:St) | intro (av:V) | intro (tk:Option Nat) | (intro (K1:Kn _ _ _); (try clear K); rename Kn _ _ _ => K))); conv => whnf
  refine hQ _ _ X1 ?_ (K.cast (by rfl))
  rfl
noncomputable def c18n : C := sT (sB c18c)
theorem insEK {s z : St} {X E : Nat} {l : List RwK} {m : Mv} {L : List En} {Q : XM → List V → St → Prop} (hl : l.length ≤ 1000) (hp : 0 < l.length) (K : Kn s z (LLK l X E m L)) (xv : V) (i : Nat)
    (hQ : ∀ e z' X', fg [3, 4, 5, 6, 7] e = EK xv (.sl 4 X' 0 (putG l l.length (keyK m, s0K m)).length none) i E l.length → Kn s z' (LLK (putG l l.length (keyK m, s0K m)) X' E m L) → Q .nrm e z') :
    HM gt0 Tryz.prog s c18n (EK xv (.sl 4 X 0 l.length none) i E l.length) z Q := by
  unfold LLK at K
  refine kgo ?_; (repeat (first | intro (X:Nat) | intro (z:St) | intro (av:V) | intro (tk:Option Nat) | (intro (K1:Kn _ _ _); (try clear K); rename Kn _ _ _ => K))); conv => whnf
  refine ⟨_, _, slG_to (a := l.length) rfl rfl (Nat.le_refl _), ?_⟩
  conv => whnf
  refine kgo ?_; (repeat (first | intro (X:Nat) | intro (z:St) | intro (av:V) | intro (tk:Option Nat) | (intro (K1:Kn _ _ _); (try clear K); rename Kn _ _ _ => K))); conv => whnf
  have hg0 := K.get (w := true) .here
  have hE0 := K.get (w := true) (.there .here)
  have hs : srcOf z 4 (.sl 4 X 0 l.length none) = some (l.length, l.flatMap csK) := by
    simp only [srcOf, hg0]
    rw [if_pos ⟨trivial, by rw [cr_len csK_l]; omega⟩, List.drop_zero, ← cr_len csK_l, List.take_length]
  obtain ⟨X1, z1, K1, ha1⟩ := mgN0 (t := 71) (ag := true) (sz := 4) (bytes := 32) (cells := l.flatMap csK) K hp (room_of (by omega) (by decide))
  refine ⟨_, _, ha1 _ _ _ rfl hs, ?_⟩
  clear K ha1; rename Kn _ _ _ => K
  have hg1 := K.get (w := true) (.there .here)
  have hE1 := K.get (w := true) (.there (.there .here))
  conv => whnf
  refine kgo ?_; (repeat (first | intro (X:Nat) | intro (z:St) | intro (av:V) | intro (tk:Option Nat) | (intro (K1:Kn _ _ _); (try clear K); rename Kn _ _ _ => K))); conv => whnf
  obtain ⟨X2, z2, K1, ha2⟩ := mgN1 (k := 1) (sz := 4) (bytes := 32) (ag := true) (cells := [.i .i64 m.to, .i .i64 m.kd, .i .i64 0, .i .i64 0]) K (cr_len csK_l l) (by decide) (room_of (by omega) (by decide)) (by decide)
  refine ⟨_, _, ha2 _ _ _ rfl rfl, ?_⟩
  clear K ha2; rename Kn _ _ _ => K
  have hg2 := K.get (w := true) (.there .here)
  have hg3 := K.get (w := true) .here
  conv => whnf
  refine kgo ?_; (repeat (first | intro (X:Nat) | intro (z:St) | intro (av:V) | intro (tk:Option Nat) | (intro (K1:Kn _ _ _); (try clear K); rename Kn _ _ _ => K))); conv => whnf
  refine ⟨_, _, slG_en rfl rfl hp (by decide) hg2 (cr_len csK_l l), ?_⟩
  conv => whnf
  refine ⟨stays_two (slG_en rfl rfl hp (by decide) hg1 (cr_len csK_l l)) (slG_en rfl rfl hp (by decide) hg0 (cr_len csK_l l)), ?_⟩
  conv => whnf
  refine kgo ?_; (repeat (first | intro (X:Nat) | intro (z:St) | intro (av:V) | intro (tk:Option Nat) | (intro (K1:Kn _ _ _); (try clear K); rename Kn _ _ _ => K))); conv => whnf
  refine ⟨_, _, apG_se hg3 rfl rfl, ?_⟩
  conv => whnf
  refine kgo ?_; (repeat (first | intro (X:Nat) | intro (z:St) | intro (av:V) | intro (tk:Option Nat) | (intro (K1:Kn _ _ _); (try clear K); rename Kn _ _ _ => K))); conv => whnf
  have hpl : (putG l l.length (keyK m, s0K m)).length = l.length + 1 := by simp [putG]
  refine hQ _ _ X2 ?_ ((K.drop1 rfl).cast (by simp only [LLK, putG, List.take_length, List.drop_length, List.flatMap_append, List.flatMap_cons, List.flatMap_nil]; rfl))
  rw [hpl]; rfl
theorem insMK {s z : St} {X E : Nat} {l : List RwK} {m : Mv} {L : List En} {Q : XM → List V → St → Prop} (hl : l.length ≤ 1000) (K : Kn s z (LLK l X E m L)) (xv : V) (i a : Nat) (hlt : a < l.length)
    (hQ : ∀ e z' X', fg [3, 4, 5, 6, 7] e = EK xv (.sl 4 X' 0 (putG l a (keyK m, s0K m)).length none) i E a → Kn s z' (LLK (putG l a (keyK m, s0K m)) X' E m L) → Q .nrm e z') :
    HM gt0 Tryz.prog s c18n (EK xv (.sl 4 X 0 l.length none) i E a) z Q := by
  unfold LLK at K
  refine kgo ?_; (repeat (first | intro (X:Nat) | intro (z:St) | intro (av:V) | intro (tk:Option Nat) | (intro (K1:Kn _ _ _); (try clear K); rename Kn _ _ _ => K))); conv => whnf
  refine ⟨_, _, slG_to (a := a) rfl rfl (by omega), ?_⟩
  conv => whnf
  refine kgo ?_; (repeat (first | intro (X:Nat) | intro (z:St) | intro (av:V) | intro (tk:Option Nat) | (intro (K1:Kn _ _ _); (try clear K); rename Kn _ _ _ => K))); conv => whnf
  have hg0 := K.get (w := true) .here
  have hE0 := K.get (w := true) (.there .here)
  have hs : srcOf z 4 (.sl 4 X 0 a none) = some (a, (l.take a).flatMap csK) := by
    simp only [srcOf, hg0]
    rw [if_pos ⟨trivial, by rw [cr_len csK_l]; omega⟩, List.drop_zero, cr_take csK_l]
  have hd : ∀ z', z'.get X = some (.c (l.flatMap csK) 0 (some 71)) → srcOf z' 4 (.sl 4 X (0 + a * 4) (l.length - a) none) = some (l.length - a, (l.drop a).flatMap csK) := by
    intro z' hz
    simp only [srcOf, hz]
    rw [if_pos ⟨trivial, by rw [cr_len csK_l]; omega⟩, Nat.zero_add, cr_drop csK_l, List.take_of_length_le]
    rw [← cr_drop csK_l, cr_len csK_l, List.length_drop]; omega
  have hpl := putG_len (y := (keyK m, s0K m)) (Nat.le_of_lt hlt)
  rcases Nat.eq_zero_or_pos a with h0 | h0
  · refine ⟨.ns, z, ?_, ?_⟩
    · subst h0; exact app_z rfl rfl hs
    conv => whnf
    refine kgo ?_; (repeat (first | intro (X:Nat) | intro (z:St) | intro (av:V) | intro (tk:Option Nat) | (intro (K1:Kn _ _ _); (try clear K); rename Kn _ _ _ => K))); conv => whnf
    obtain ⟨X1, z1, K1, ha1⟩ := mgN0 (t := 71) (ag := true) (sz := 4) (bytes := 32) (k := 1) (cells := [.i .i64 m.to, .i .i64 m.kd, .i .i64 0, .i .i64 0]) K (by decide) (room_of (by omega) (by decide))
    refine ⟨_, _, ha1 _ _ _ rfl rfl, ?_⟩
    clear K ha1; rename Kn _ _ _ => K
    have hg1 := K.get (w := true) (.there .here)
    conv => whnf
    refine kgo ?_; (repeat (first | intro (X:Nat) | intro (z:St) | intro (av:V) | intro (tk:Option Nat) | (intro (K1:Kn _ _ _); (try clear K); rename Kn _ _ _ => K))); conv => whnf
    refine ⟨_, _, slG_fr (a := a) (n := l.length) rfl rfl hlt, ?_⟩
    conv => whnf
    refine ⟨stays_two (slG_fr (a := a) (n := l.length) rfl rfl hlt) (slG_fr (a := a) (n := l.length) rfl rfl hlt), ?_⟩
    conv => whnf
    refine kgo ?_; (repeat (first | intro (X:Nat) | intro (z:St) | intro (av:V) | intro (tk:Option Nat) | (intro (K1:Kn _ _ _); (try clear K); rename Kn _ _ _ => K))); conv => whnf
    obtain ⟨X3, z3, K1, ha3⟩ := mgN1 (k := l.length - a) (sz := 4) (bytes := 32) (n := 1) (ag := true) (cells := (l.drop a).flatMap csK) K rfl (by omega) (room_of (by omega) (by decide)) (by decide)
    refine ⟨_, _, ha3 _ _ _ rfl (hd _ hg1), ?_⟩
    clear K ha3; rename Kn _ _ _ => K
    conv => whnf
    refine kgo ?_; (repeat (first | intro (X:Nat) | intro (z:St) | intro (av:V) | intro (tk:Option Nat) | (intro (K1:Kn _ _ _); (try clear K); rename Kn _ _ _ => K))); conv => whnf
    refine hQ _ _ X3 ?_ ((K.drop1 rfl).cast (by subst h0; rfl))
    rw [hpl]; subst h0; rw [Nat.zero_add]; rfl
  · obtain ⟨X1, z1, K1, ha1⟩ := mgN0 (t := 71) (ag := true) (sz := 4) (bytes := 32) (cells := (l.take a).flatMap csK) K h0 (room_of (by omega) (by decide))
    refine ⟨_, _, ha1 _ _ _ rfl hs, ?_⟩
    clear K ha1; rename Kn _ _ _ => K
    have hg1 := K.get (w := true) (.there .here)
    have hE1 := K.get (w := true) (.there (.there .here))
    conv => whnf
    refine kgo ?_; (repeat (first | intro (X:Nat) | intro (z:St) | intro (av:V) | intro (tk:Option Nat) | (intro (K1:Kn _ _ _); (try clear K); rename Kn _ _ _ => K))); conv => whnf
    obtain ⟨X2, z2, K1, ha2⟩ := mgN1 (k := 1) (sz := 4) (bytes := 32) (n := a) (ag := true) (cells := [.i .i64 m.to, .i .i64 m.kd, .i .i64 0, .i .i64 0]) K (by rw [cr_len csK_l, List.length_take]; omega) (by decide) (room_of (by omega) (by decide)) (by decide)
    refine ⟨_, _, ha2 _ _ _ rfl rfl, ?_⟩
    clear K ha2; rename Kn _ _ _ => K
    have hg2 := K.get (w := true) (.there .here)
    conv => whnf
    refine kgo ?_; (repeat (first | intro (X:Nat) | intro (z:St) | intro (av:V) | intro (tk:Option Nat) | (intro (K1:Kn _ _ _); (try clear K); rename Kn _ _ _ => K))); conv => whnf
    refine ⟨_, _, slG_fr (a := a) (n := l.length) rfl rfl hlt, ?_⟩
    conv => whnf
    refine ⟨stays_two (slG_fr (a := a) (n := l.length) rfl rfl hlt) (slG_fr (a := a) (n := l.length) rfl rfl hlt), ?_⟩
    conv => whnf
    refine kgo ?_; (repeat (first | intro (X:Nat) | intro (z:St) | intro (av:V) | intro (tk:Option Nat) | (intro (K1:Kn _ _ _); (try clear K); rename Kn _ _ _ => K))); conv => whnf
    obtain ⟨X3, z3, K1, ha3⟩ := mgN1 (k := l.length - a) (sz := 4) (bytes := 32) (n := a + 1) (ag := true) (cells := (l.drop a).flatMap csK) K (by rw [List.length_append, cr_len csK_l, List.length_take, Nat.min_eq_left (by omega)]; simp; omega) (by omega) (room_of (by omega) (by decide)) (by decide)
    refine ⟨_, _, ha3 _ _ _ rfl (hd _ hg2), ?_⟩
    clear K ha3; rename Kn _ _ _ => K
    conv => whnf
    refine kgo ?_; (repeat (first | intro (X:Nat) | intro (z:St) | intro (av:V) | intro (tk:Option Nat) | (intro (K1:Kn _ _ _); (try clear K); rename Kn _ _ _ => K))); conv => whnf
    refine hQ _ _ X3 ?_ ((K.drop1 rfl).cast (by simp only [LLK, putG, List.flatMap_append, List.flatMap_cons, List.append_assoc]; rfl))
    rw [hpl]; rfl
theorem in2K {s z : St} {X E : Nat} {l : List RwK} {m : Mv} {L : List En} {Q : XM → List V → St → Prop} (hl : l.length ≤ 1000) (hp : 0 < l.length) (K : Kn s z (LLK l X E m L)) (xv : V) (i a : Nat) (ha : a ≤ l.length) (hn : ∀ y, l[a]? = some y → y.1 ≠ keyK m)
    (hQ : ∀ e z' X', fg [3, 4, 5, 6, 7] e = EK xv (.sl 4 X' 0 (putG l a (keyK m, s0K m)).length none) i E a → Kn s z' (LLK (putG l a (keyK m, s0K m)) X' E m L) → Q .nrm e z') :
    HM gt0 Tryz.prog s c18c (EK xv (.sl 4 X 0 l.length none) i E a) z Q := by
  refine HM.seq (a := sA c18c) ?_
  generalize hR : mS gt0 Tryz.prog s _ _ = R
  have K0 := K
  unfold LLK at K
  rcases Nat.lt_or_ge a l.length with hal | hal
  · have hx : l[a]? = some l[a] := List.getElem?_eq_getElem hal
    generalize l[a] = x at hx
    have hnx := hn x hx
    have hc0 := atK hx 0 (by decide)
    have hc1 := atK hx 1 (by decide)
    simp only [csK, List.getElem?_cons_succ, List.getElem?_cons_zero] at hc0 hc1
    refine kgo ?_; (repeat (first | intro (X:Nat) | intro (z:St) | intro (av:V) | intro (tk:Option Nat) | (intro (K1:Kn _ _ _); (try clear K); rename Kn _ _ _ => K))); conv => whnf
    rw [show eqZ ((a : Nat) : Int) ((l.length : Nat) : Int) = false by rw [eqZ_eq]; simp; omega]
    conv => whnf
    refine kgo ?_; (repeat (first | intro (X:Nat) | intro (z:St) | intro (av:V) | intro (tk:Option Nat) | (intro (K1:Kn _ _ _); (try clear K); rename Kn _ _ _ => K))); conv => whnf
    refine ⟨rfl, Int.natCast_nonneg _, by omega, ?_⟩
    conv => whnf
    refine kgo ?_; (repeat (first | intro (X:Nat) | intro (z:St) | intro (av:V) | intro (tk:Option Nat) | (intro (K1:Kn _ _ _); (try clear K); rename Kn _ _ _ => K))); conv => whnf
    cases hk1 : eqZ x.1.1 m.to <;> conv => whnf
    · refine kgo ?_; (repeat (first | intro (X:Nat) | intro (z:St) | intro (av:V) | intro (tk:Option Nat) | (intro (K1:Kn _ _ _); (try clear K); rename Kn _ _ _ => K))); conv => whnf
      subst hR
      refine HM.cond (c := .t 80) (a := c18n) (b := .skip) ?_
      show HM gt0 Tryz.prog s c18n _ _ Q
      refine HM.fgt (c := c18n) gnm0 [3, 4, 5, 6, 7] fun _ => ?_
      exact insMK hl K0 xv i a hal hQ
    · refine kgo ?_; (repeat (first | intro (X:Nat) | intro (z:St) | intro (av:V) | intro (tk:Option Nat) | (intro (K1:Kn _ _ _); (try clear K); rename Kn _ _ _ => K))); conv => whnf
      refine ⟨rfl, Int.natCast_nonneg _, by omega, ?_⟩
      conv => whnf
      refine kgo ?_; (repeat (first | intro (X:Nat) | intro (z:St) | intro (av:V) | intro (tk:Option Nat) | (intro (K1:Kn _ _ _); (try clear K); rename Kn _ _ _ => K))); conv => whnf
      rw [show eqZ x.1.2 m.kd = false from eqp_f (b := keyK m) hnx hk1]
      conv => whnf
      refine kgo ?_; (repeat (first | intro (X:Nat) | intro (z:St) | intro (av:V) | intro (tk:Option Nat) | (intro (K1:Kn _ _ _); (try clear K); rename Kn _ _ _ => K))); conv => whnf
      subst hR
      refine HM.cond (c := .t 80) (a := c18n) (b := .skip) ?_
      show HM gt0 Tryz.prog s c18n _ _ Q
      refine HM.fgt (c := c18n) gnm0 [3, 4, 5, 6, 7] fun _ => ?_
      exact insMK hl K0 xv i a hal hQ
  · have hal2 : a = l.length := by omega
    subst hal2
    refine kgo ?_; (repeat (first | intro (X:Nat) | intro (z:St) | intro (av:V) | intro (tk:Option Nat) | (intro (K1:Kn _ _ _); (try clear K); rename Kn _ _ _ => K))); conv => whnf
    rw [show eqZ ((l.length : Nat) : Int) ((l.length : Nat) : Int) = true by rw [eqZ_eq]; simp]
    conv => whnf
    refine kgo ?_; (repeat (first | intro (X:Nat) | intro (z:St) | intro (av:V) | intro (tk:Option Nat) | (intro (K1:Kn _ _ _); (try clear K); rename Kn _ _ _ => K))); conv => whnf
    subst hR
    refine HM.cond (c := .t 80) (a := c18n) (b := .skip) ?_
    show HM gt0 Tryz.prog s c18n _ _ Q
    refine HM.fgt (c := c18n) gnm0 [3, 4, 5, 6, 7] fun _ => ?_
    exact insEK hl hp K0 xv i hQ
theorem in2hK {s z : St} {X E : Nat} {l : List RwK} {m : Mv} {L : List En} {Q : XM → List V → St → Prop} (K : Kn s z (LLK l X E m L)) (xv : V) (i a : Nat) (x : RwK) (hx : l[a]? = some x) (hk : x.1 = keyK m)
    (hQ : ∀ e z', fg [3, 4, 5, 6, 7] e = EK xv (.sl 4 X 0 l.length none) i E a → Kn s z' (LLK l X E m L) → Q .nrm e z') :
    HM gt0 Tryz.prog s c18c (EK xv (.sl 4 X 0 l.length none) i E a) z Q := by
  have hal : a < l.length := by
    rcases Nat.lt_or_ge a l.length with h | h
    · exact h
    · rw [List.getElem?_eq_none h] at hx; cases hx
  unfold LLK at K
  have hc0 := atK hx 0 (by decide)
  have hc1 := atK hx 1 (by decide)
  simp only [csK, List.getElem?_cons_succ, List.getElem?_cons_zero] at hc0 hc1
  refine kgo ?_; (repeat (first | intro (X:Nat) | intro (z:St) | intro (av:V) | intro (tk:Option Nat) | (intro (K1:Kn _ _ _); (try clear K); rename Kn _ _ _ => K))); conv => whnf
  rw [show eqZ ((a : Nat) : Int) ((l.length : Nat) : Int) = false by rw [eqZ_eq]; simp; omega]
  conv => whnf
  refine kgo ?_; (repeat (first | intro (X:Nat) | intro (z:St) | intro (av:V) | intro (tk:Option Nat) | (intro (K1:Kn _ _ _); (try clear K); rename Kn _ _ _ => K))); conv => whnf
  refine ⟨rfl, Int.natCast_nonneg _, by omega, ?_⟩
  conv => whnf
  refine kgo ?_; (repeat (first | intro (X:Nat) | intro (z:St) | intro (av:V) | intro (tk:Option Nat) | (intro (K1:Kn _ _ _); (try clear K); rename Kn _ _ _ => K))); conv => whnf
  rw [show eqZ x.1.1 m.to = true by rw [hk, eqZ_eq]; simp [keyK]]
  conv => whnf
  refine kgo ?_; (repeat (first | intro (X:Nat) | intro (z:St) | intro (av:V) | intro (tk:Option Nat) | (intro (K1:Kn _ _ _); (try clear K); rename Kn _ _ _ => K))); conv => whnf
  refine ⟨rfl, Int.natCast_nonneg _, by omega, ?_⟩
  conv => whnf
  refine kgo ?_; (repeat (first | intro (X:Nat) | intro (z:St) | intro (av:V) | intro (tk:Option Nat) | (intro (K1:Kn _ _ _); (try clear K); rename Kn _ _ _ => K))); conv => whnf
  rw [show eqZ x.1.2 m.kd = true by rw [hk, eqZ_eq]; simp [keyK]]
  conv => whnf
  refine kgo ?_; (repeat (first | intro (X:Nat) | intro (z:St) | intro (av:V) | intro (tk:Option Nat) | (intro (K1:Kn _ _ _); (try clear K); rename Kn _ _ _ => K))); conv => whnf
  exact hQ _ _ rfl K
theorem in3K {s z : St} {X E : Nat} {l : List RwK} {L : List En} {Q : XM → List V → St → Prop} (ms : List Mv) (i a : Nat) (m : Mv) (K : Kn s z (LLK l X E m L)) (hm : (evs ms)[i]? = some m) (x : RwK) (hx : l[a]? = some x)
    (hQ : ∀ e z', fg [3, 4, 5, 6, 7] e = EK (.pu 9 ((evs ms).map Mv.o) .u) (.sl 4 X 0 (l.set a (x.1, gK m x.2)).length none) i E a → Kn s z' (LLK (l.set a (x.1, gK m x.2)) X E m L) → Q .nrm e z') :
    HM gt0 Tryz.prog s c18s (EK (.pu 9 ((evs ms).map Mv.o) .u) (.sl 4 X 0 l.length none) i E a) z Q := by
  unfold LLK at K
  have hal : a < l.length := by
    rcases Nat.lt_or_ge a l.length with h | h
    · exact h
    · rw [List.getElem?_eq_none h] at hx; cases hx
  have hmm : ((evs ms).map Mv.o)[((i : Nat) : Int).toNat]? = some m.o := by simp [hm]
  obtain ⟨l0, hl0⟩ : ∃ l0, l0 = l := ⟨_, rfl⟩
  have hx0 : l0[a]? = some x := by rw [hl0]; exact hx
  have hal0 : a < l0.length := by rw [hl0]; exact hal
  have hll0 : l0.length = l.length := by rw [hl0]
  rw [← hl0] at K
  have hcs0 := atK hx0 2 (by decide)
  simp only [csK, List.getElem?_cons_succ, List.getElem?_cons_zero] at hcs0
  have hX0 := K.get (w := true) .here
  refine kgo ?_; (repeat (first | intro (X:Nat) | intro (z:St) | intro (av:V) | intro (tk:Option Nat) | (intro (K1:Kn _ _ _); (try clear K); rename Kn _ _ _ => K))); conv => whnf
  have hlt0 : 0 + ((a : Nat) : Int).toNat * 4 + 2 + 1 ≤ (l0.flatMap csK).length := by rw [cr_len csK_l, Int.toNat_natCast]; omega
  refine HO.opA (krun_store (n := 1) (l := X) (o := 0 + ((a : Nat) : Int).toNat * 4 + 2) (v := .i .i64 (wrapF .i64 (x.2.1 + 1))) (cs' := (l0.set a (x.1, wrapF .i64 (x.2.1 + 1), x.2.2)).flatMap csK) rfl rfl hX0 rfl rfl (Nat.zero_le _) hlt0 (by simpa using (show setAt (l0.flatMap csK) (a * 4 + 2) (V.i .i64 (wrapF .i64 (x.2.1 + 1))).cells = _ from cr_set (x := x) csK_l (fun r => rfl) l0 a hx0))) ?_
  have K1 := K.put (o' := .c ((l0.set a (x.1, wrapF .i64 (x.2.1 + 1), x.2.2)).flatMap csK) 0 (some 71)) .here (fun h => by cases h)
  clear K; rename Kn _ _ _ => K
  obtain ⟨l1, hl1⟩ : ∃ l1, l1 = l0.set a (x.1, wrapF .i64 (x.2.1 + 1), x.2.2) := ⟨_, rfl⟩
  rw [← hl1] at K ⊢
  have hx1 : l1[a]? = some (x.1, wrapF .i64 (x.2.1 + 1), x.2.2) := by rw [hl1, List.getElem?_set_self hal0]
  have hal1 : a < l1.length := by rw [hl1, List.length_set]; exact hal0
  clear hcs0
  conv => whnf
  have hcs1 := atK hx1 3 (by decide)
  simp only [csK, List.getElem?_cons_succ, List.getElem?_cons_zero] at hcs1
  have hX1 := K.get (w := true) .here
  refine kgo ?_; (repeat (first | intro (X:Nat) | intro (z:St) | intro (av:V) | intro (tk:Option Nat) | (intro (K1:Kn _ _ _); (try clear K); rename Kn _ _ _ => K))); conv => whnf
  have hlt1 : 0 + ((a : Nat) : Int).toNat * 4 + 3 + 1 ≤ (l1.flatMap csK).length := by rw [cr_len csK_l, Int.toNat_natCast]; omega
  refine HD.opA2 (krun_store (n := 1) (l := X) (o := 0 + ((a : Nat) : Int).toNat * 4 + 3) (v := .i .i64 (wrapF .i64 (x.2.2 + m.rl.length))) (cs' := (l1.set a (x.1, wrapF .i64 (x.2.1 + 1), wrapF .i64 (x.2.2 + m.rl.length))).flatMap csK) rfl rfl hX1 rfl rfl (Nat.zero_le _) hlt1 (by simpa using (show setAt (l1.flatMap csK) (a * 4 + 3) (V.i .i64 (wrapF .i64 (x.2.2 + m.rl.length))).cells = _ from cr_set (x := (x.1, wrapF .i64 (x.2.1 + 1), x.2.2)) csK_l (fun r => rfl) l1 a hx1))) rfl ?_
  have K1 := K.put (o' := .c ((l1.set a (x.1, wrapF .i64 (x.2.1 + 1), wrapF .i64 (x.2.2 + m.rl.length))).flatMap csK) 0 (some 71)) .here (fun h => by cases h)
  clear K; rename Kn _ _ _ => K
  obtain ⟨l2, hl2⟩ : ∃ l2, l2 = l1.set a (x.1, wrapF .i64 (x.2.1 + 1), wrapF .i64 (x.2.2 + m.rl.length)) := ⟨_, rfl⟩
  rw [← hl2] at K ⊢
  have hx2 : l2[a]? = some (x.1, wrapF .i64 (x.2.1 + 1), wrapF .i64 (x.2.2 + m.rl.length)) := by rw [hl2, List.getElem?_set_self hal1]
  have hal2 : a < l2.length := by rw [hl2, List.length_set]; exact hal1
  clear hcs1
  conv => whnf
  refine kgo ?_; (repeat (first | intro (X:Nat) | intro (z:St) | intro (av:V) | intro (tk:Option Nat) | (intro (K1:Kn _ _ _); (try clear K); rename Kn _ _ _ => K))); conv => whnf
  rw [hl2, hl1, List.set_set, hl0] at K ⊢
  rw [List.length_set] at hQ
  exact hQ _ _ rfl K
theorem tailK {s z : St} {X E : Nat} {l : List RwK} {L : List En} {Q : XM → List V → St → Prop} (hl : l.length ≤ 1000) (hp : 0 < l.length) (ms : List Mv) (i : Nat) (m : Mv) (K : Kn s z (LLK l X E m L)) (hm : (evs ms)[i]? = some m)
    (hQ : ∀ e z' X', fg [3, 4, 5, 6, 7] e = EK (.pu 9 ((evs ms).map Mv.o) .u) (.sl 4 X' 0 (insR ltP (fK m) (keyK m) l).length none) i E (twG ltP (keyK m) l) → Kn s z' (LLK (insR ltP (fK m) (keyK m) l) X' E m L) → Q .nrm e z') :
    HM gt0 Tryz.prog s (.seq c18i (.seq c18c c18s)) (EK (.pu 9 ((evs ms).map Mv.o) .u) (.sl 4 X 0 l.length none) i E 0) z Q := by
  refine HM.seq (in1K hl K _ i fun e z1 he K => ?_)
  refine HM.fgt (c := .seq c18c c18s) gnm0 [3, 4, 5, 6, 7] fun _ => ?_
  rw [he]
  refine HM.seq (a := c18c) ?_
  by_cases hit : ∃ x, l[twG ltP (keyK m) l]? = some x ∧ x.1 = keyK m
  · obtain ⟨x, hx, hk⟩ := hit
    refine in2hK K _ i _ x hx hk fun e z2 he K => ?_
    refine HM.fgt (c := c18s) gnm0 [3, 4, 5, 6, 7] fun _ => ?_
    rw [he]
    refine in3K ms i _ m K hm x hx fun e z3 he K => ?_
    rw [insG_hit ordP hx hk] at hQ
    exact hQ e z3 X he K
  · have hn : ∀ y, l[twG ltP (keyK m) l]? = some y → y.1 ≠ keyK m := fun y hy he => hit ⟨y, hy, he⟩
    refine in2K hl hp K _ i _ (twG_le _ _) hn fun e z2 X2 he K => ?_
    refine HM.fgt (c := c18s) gnm0 [3, 4, 5, 6, 7] fun _ => ?_
    rw [he]
    refine in3K ms i _ m K hm (keyK m, s0K m) (putG_at (twG_le _ _) _) fun e z3 he K => ?_
    rw [insG_new (keyK m, s0K m) hn] at hQ
    exact hQ e z3 X2 he K
theorem tailEK {s z : St} {E : Nat} {L : List En} {Q : XM → List V → St → Prop} (ms : List Mv) (i : Nat) (m : Mv) (K : Kn s z (.ob true E (.c m.e 0 (some 38)) :: L)) (hm : (evs ms)[i]? = some m)
    (hQ : ∀ e z' X', fg [3, 4, 5, 6, 7] e = EK (.pu 9 ((evs ms).map Mv.o) .u) (.sl 4 X' 0 (insR ltP (fK m) (keyK m) []).length none) i E 0 → Kn s z' (LLK (insR ltP (fK m) (keyK m) []) X' E m L) → Q .nrm e z') :
    HM gt0 Tryz.prog s (.seq c18i (.seq c18c c18s)) (EK (.pu 9 ((evs ms).map Mv.o) .u) .ns i E 0) z Q := by
  refine HM.seq (in1eK K _ i E fun e z1 he K => ?_)
  refine HM.fgt (c := .seq c18c c18s) gnm0 [3, 4, 5, 6, 7] fun _ => ?_
  rw [he]
  refine HM.seq (a := c18c) ?_
  refine in2eK K _ i fun e z2 X2 he K => ?_
  refine HM.fgt (c := c18s) gnm0 [3, 4, 5, 6, 7] fun _ => ?_
  rw [he]
  refine in3K ms i 0 m K hm (keyK m, s0K m) rfl fun e z3 he K => ?_
  exact hQ e z3 X2 he K
def refK (es : List Mv) : List RwK := es.foldl (fun l m => insR ltP (fK m) (keyK m) l) []
theorem ref_stepK (es : List Mv) (i : Nat) (m : Mv) (h : es[i]? = some m) : refK (es.take (i + 1)) = insR ltP (fK m) (keyK m) (refK (es.take i)) := by
  unfold refK
  rw [List.take_add_one, h, List.foldl_append]; rfl
theorem ref_lenK (es : List Mv) : ∀ i, i ≤ es.length → (refK (es.take i)).length ≤ i
  | 0, _ => by simp [refK]
  | i + 1, h => by
    have hm : es[i]? = some es[i] := List.getElem?_eq_getElem (by omega)
    rw [ref_stepK es i _ hm]
    have := ref_lenK es i (by omega)
    have := (insG_len (lt := ltP) (f := fK es[i]) (k := keyK es[i]) (refK (es.take i))).2
    omega
theorem rdK {z : St} {X : Nat} {t : Option Nat} {l : List RwK} (hg : z.get X = some (.c (l.flatMap csK) 0 t)) : Rd z (.sl 4 X 0 l.length none) (.pu 4 (l.map fun x => .ag (csK x)) .u) := by
  refine .sl 4 X 0 l.length none _ _ _ _ hg (by rw [cr_len csK_l]; omega) (List.length_map ..) (fun i hi => ?_) (fun i j hi hj => ?_)
  · have hx : l[i]? = some l[i] := List.getElem?_eq_getElem hi
    simp [List.getD_eq_getElem?_getD, hx, V.cells, csK]
  · have hx : l[i]? = some l[i] := List.getElem?_eq_getElem hi
    generalize l[i] = x at hx
    have h1 : (l.flatMap csK).getD (0 + i * 4 + j) .bad = ((l.map fun x => V.ag (csK x)).getD i .bad).cells.getD j .bad := by
      rw [Nat.zero_add, List.getD_eq_getElem?_getD, cr_at csK_l l i j x hx hj]
      simp [List.getD_eq_getElem?_getD, hx, V.cells]
    rw [h1]; exact .refl _
theorem nmK {n : Nat → Prop} (l : List RwK) : Nm n (.pu 4 (l.map fun x => .ag (csK x)) .u) := by
  refine .pu _ _ _ (fun v hv => ?_) (fun k hk => by cases hk)
  obtain ⟨x, _, rfl⟩ := List.mem_map.1 hv
  refine .ag _ fun c hc => ?_
  simp only [csK, List.mem_cons, List.not_mem_nil, or_false] at hc
  rcases hc with rfl | rfl | rfl | rfl <;> exact .i _ _
def ELK (xv rv : V) (i : Nat) : List V := (.bad :: .bad :: .bad :: xv :: rv :: .i .i64 (i : Nat) :: List.replicate 115 .bad)
theorem refK_den (ms : List Mv) (hms : ms.length ≤ 1000) (hn : ∀ m ∈ ms, Nm s0.L m.v) (s : St) (hx : NoX s) :
    Den gt0 Tryz.prog 21 [.pu 47 (ms.map Mv.v) .u] s (.pu 4 ((refK (evs ms)).map fun x => .ag (csK x)) .u) s := by
  refine Den.tidy fun hty => Den.hmr gnm0 hF21m ?_
  have K := Kn.init hty.1 hx
  conv => whnf
  refine kgo ?_; (repeat (first | intro (X:Nat) | intro (z:St) | intro (av:V) | intro (tk:Option Nat) | (intro (K1:Kn _ _ _); (try clear K); rename Kn _ _ _ => K))); conv => whnf
  refine ⟨_, _, events_den ms hms hn s hx, ?_⟩
  conv => whnf
  refine kgo ?_; (repeat (first | intro (X:Nat) | intro (z:St) | intro (av:V) | intro (tk:Option Nat) | (intro (K1:Kn _ _ _); (try clear K); rename Kn _ _ _ => K))); conv => whnf
  obtain ⟨E, hE⟩ : ∃ E, E = evs ms := ⟨_, rfl⟩
  have hEl : E.length ≤ 1000 := by
    have := List.length_filter_le isEv ms
    rw [hE]; unfold evs; omega
  refine HM.loop gnm0 fun hg => ⟨fun n e z => ∃ i : Nat, i ≤ E.length ∧ n = E.length - i ∧ ((i = 0 ∧ e = ELK (.pu 9 ((evs ms).map Mv.o) .u) .ns i ∧ Kn s z []) ∨
      ∃ X, 0 < (refK (E.take i)).length ∧ e = ELK (.pu 9 ((evs ms).map Mv.o) .u) (.sl 4 X 0 (refK (E.take i)).length none) i ∧ Kn s z [.ob true X (.c ((refK (E.take i)).flatMap csK) 0 (some 71))]),
    ⟨E.length, fg [3, 4, 5] _, _, WkM.fg hg, 0, Nat.zero_le _, rfl, .inl ⟨rfl, rfl, K⟩⟩, ?_⟩
  clear K
  have hEm : ((evs ms).map Mv.o).length = E.length := by rw [hE, List.length_map]
  rintro n e z1 ⟨i, hi, rfl, ⟨h0, rfl, K⟩ | ⟨X, hp, rfl, K⟩⟩
  · conv => whnf
    refine kgo ?_; (repeat (first | intro (X:Nat) | intro (z:St) | intro (av:V) | intro (tk:Option Nat) | (intro (K1:Kn _ _ _); (try clear K); rename Kn _ _ _ => K))); conv => whnf
    rw [hEm]
    refine brL ⟨fun hlt => ?_, fun hge => ?_⟩ <;> conv => whnf
    · have hlt' : i < (evs ms).length := by rw [← hE]; exact hlt
      have hm : (evs ms)[i]? = some (evs ms)[i] := List.getElem?_eq_getElem hlt'
      generalize (evs ms)[i] = m at hm
      have hmm : ((evs ms).map Mv.o)[((i : Nat) : Int).toNat]? = some m.o := by simp [hm]
      refine HM.skip ?_
      refine HM.seq (HM.blk (HM.seq ?_))
      generalize hR : mS gt0 Tryz.prog s _ _ = R
      conv => whnf
      refine kgo ?_; (repeat (first | intro (X:Nat) | intro (z:St) | intro (av:V) | intro (tk:Option Nat) | (intro (K1:Kn _ _ _); (try clear K); rename Kn _ _ _ => K))); conv => whnf
      subst hR
      refine HM.seq (a := .ops _) ?_
      generalize hR : mS gt0 Tryz.prog s _ _ = R
      conv => whnf
      refine kgo ?_; (repeat (first | intro (X:Nat) | intro (z:St) | intro (av:V) | intro (tk:Option Nat) | (intro (K1:Kn _ _ _); (try clear K); rename Kn _ _ _ => K))); conv => whnf
      subst hR
      refine HM.fgt (c := .seq c18i (.seq c18c c18s)) gnm0 [3, 4, 5, 6, 7] fun _ => ?_
      refine tailEK (L := []) ms i m K hm fun e z2 X2 he K => ?_
      refine HM.fgt (c := .ops _) gnm0 [3, 4, 5, 6, 7] fun _ => ?_
      rw [he]
      have hst : refK (E.take (i + 1)) = insR ltP (fK m) (keyK m) [] := by
        rw [ref_stepK E i m (by rw [hE]; exact hm), h0]; rfl
      rw [← hst] at K ⊢
      have hpp : 0 < (refK (E.take (i + 1))).length := by rw [hst]; exact (insG_len _).1
      unfold LLK at K
      have K1 := K.drop1 rfl
      clear K; rename Kn _ _ _ => K
      conv => whnf
      refine kgo ?_; (repeat (first | intro (X:Nat) | intro (z:St) | intro (av:V) | intro (tk:Option Nat) | (intro (K1:Kn _ _ _); (try clear K); rename Kn _ _ _ => K))); conv => whnf
      intro hg'
      exact ⟨E.length - (i + 1), fg [3, 4, 5] _, _, by omega, WkM.fg hg', i + 1, hlt, rfl, .inr ⟨X2, hpp, rfl, K⟩⟩
    · refine kgo ?_; (repeat (first | intro (X:Nat) | intro (z:St) | intro (av:V) | intro (tk:Option Nat) | (intro (K1:Kn _ _ _); (try clear K); rename Kn _ _ _ => K))); conv => whnf
      have hE0 : evs ms = [] := by rw [← hE]; exact List.eq_nil_of_length_eq_zero (by omega)
      exact K.retR [.ns] hty hx (nmK _) (.refl _) (by rw [hE0]; exact .one (.ns 4))
  · conv => whnf
    refine kgo ?_; (repeat (first | intro (X:Nat) | intro (z:St) | intro (av:V) | intro (tk:Option Nat) | (intro (K1:Kn _ _ _); (try clear K); rename Kn _ _ _ => K))); conv => whnf
    rw [hEm]
    refine brL ⟨fun hlt => ?_, fun hge => ?_⟩ <;> conv => whnf
    · have hlt' : i < (evs ms).length := by rw [← hE]; exact hlt
      have hm : (evs ms)[i]? = some (evs ms)[i] := List.getElem?_eq_getElem hlt'
      generalize (evs ms)[i] = m at hm
      have hmm : ((evs ms).map Mv.o)[((i : Nat) : Int).toNat]? = some m.o := by simp [hm]
      have hln := ref_lenK E i hi
      refine HM.skip ?_
      refine HM.seq (HM.blk (HM.seq ?_))
      generalize hR : mS gt0 Tryz.prog s _ _ = R
      conv => whnf
      refine kgo ?_; (repeat (first | intro (X:Nat) | intro (z:St) | intro (av:V) | intro (tk:Option Nat) | (intro (K1:Kn _ _ _); (try clear K); rename Kn _ _ _ => K))); conv => whnf
      subst hR
      refine HM.seq (a := .ops _) ?_
      generalize hR : mS gt0 Tryz.prog s _ _ = R
      conv => whnf
      refine kgo ?_; (repeat (first | intro (X:Nat) | intro (z:St) | intro (av:V) | intro (tk:Option Nat) | (intro (K1:Kn _ _ _); (try clear K); rename Kn _ _ _ => K))); conv => whnf
      subst hR
      refine HM.fgt (c := .seq c18i (.seq c18c c18s)) gnm0 [3, 4, 5, 6, 7] fun _ => ?_
      refine tailK (L := []) (by omega) hp ms i m (kperm2 K) hm fun e z2 X2 he K => ?_
      refine HM.fgt (c := .ops _) gnm0 [3, 4, 5, 6, 7] fun _ => ?_
      rw [he]
      have hst : refK (E.take (i + 1)) = insR ltP (fK m) (keyK m) (refK (E.take i)) := by
        rw [ref_stepK E i m (by rw [hE]; exact hm)]
      rw [← hst] at K ⊢
      have hpp : 0 < (refK (E.take (i + 1))).length := by rw [hst]; exact (insG_len _).1
      unfold LLK at K
      have K1 := K.drop1 rfl
      clear K; rename Kn _ _ _ => K
      conv => whnf
      refine kgo ?_; (repeat (first | intro (X:Nat) | intro (z:St) | intro (av:V) | intro (tk:Option Nat) | (intro (K1:Kn _ _ _); (try clear K); rename Kn _ _ _ => K))); conv => whnf
      intro hg'
      exact ⟨E.length - (i + 1), fg [3, 4, 5] _, _, by omega, WkM.fg hg', i + 1, hlt, rfl, .inr ⟨X2, hpp, rfl, K⟩⟩
    · refine kgo ?_; (repeat (first | intro (X:Nat) | intro (z:St) | intro (av:V) | intro (tk:Option Nat) | (intro (K1:Kn _ _ _); (try clear K); rename Kn _ _ _ => K))); conv => whnf
      have hEi : E.take i = evs ms := by rw [List.take_of_length_le hge, hE]
      rw [hEi] at K ⊢
      exact K.retR [.sl 4 X 0 (refK (evs ms)).length none] hty hx (nmK _) (rdK (K.getd .here)) (.one (.refl _))
end Go.Proofs.YthoojnjcdllgdaaGreatDoor
