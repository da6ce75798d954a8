/-
  Contract: the document's sums (F). No statement stands here.
-/
import Derived.Test.YthoojnjcdllgdaaGreatDoorTxb
import Derived.Test.YthoojnjcdllgdaaGreatDoorCodeR
import Derived.Test.YthoojnjcdllgdaaGreatDoorTcell
set_option linter.all false
namespace Go.Proofs.YthoojnjcdllgdaaGreatDoor
open Go Rf TallyP
set_option maxRecDepth 100000
set_option maxHeartbeats 4000000

noncomputable def c21l : C := sI (sI (sB (sA (sB (sB (sB f22m.body))))))
noncomputable def c21b : C := sI (sA (sB c21l))
noncomputable def c21i : C := sA (sB (sB c21b))
noncomputable def c21c : C := sA (sB (sB (sB c21b)))
noncomputable def c21s : C := sB (sB (sB (sB c21b)))
abbrev RwF := (Int × Int) × Int
def csF (x : RwF) : List V := [.i .i64 x.1.1, .i .i64 x.1.2, .i .i64 x.2]
theorem csF_l (x : RwF) : (csF x).length = 3 := rfl
def keyF (m : Mv) : (Int × Int) := (m.og, m.to)
def s0F (m : Mv) : Int := 0
def gF (m : Mv) (s : Int) : Int := wrapF .i64 (s + 1)
def fF (m : Mv) (o : Option Int) : Int := gF m (o.getD (s0F m))
def EF (xv rv : V) (i E a : Nat) : List V := (.bad :: .bad :: .bad :: xv :: rv :: .i .i64 (i : Nat) :: .p E 0 :: .i .i64 (a : Nat) :: List.replicate 101 .bad)
def LLF (l : List RwF) (X E : Nat) (m : Mv) (L : List En) : List En := .ob true X (.c (l.flatMap csF) 0 (some 77)) :: .ob true E (.c m.e 0 (some 38)) :: L
theorem atF {l : List RwF} {a : Nat} {x : RwF} (hx : l[a]? = some x) (j : Nat) (hj : j < 3) : (l.flatMap csF)[0 + ((a : Nat) : Int).toNat * 3 + j]? = (csF x)[j]? := by
  have := cr_at csF_l l a j x hx hj
  simpa using this
theorem in1F {s z : St} {X E : Nat} {l : List RwF} {L : List En} {m : Mv} {Q : XM → List V → St → Prop} (hl : l.length ≤ 1000) (K : Kn s z (LLF l X E m L)) (xv : V) (i : Nat)
    (hQ : ∀ e z', fg [3, 4, 5, 6, 7] e = EF xv (.sl 3 X 0 l.length none) i E (twG ltP (keyF m) l) → Kn s z' (LLF l X E m L) → Q .nrm e z') :
    HM gt0 Tryz.prog s c21i (EF xv (.sl 3 X 0 l.length none) i E 0) z Q := by
  unfold LLF at K
  refine kgo ?_; (repeat (first | intro (X:Nat) | intro (z:St) | intro (av:V) | intro (tk:Option Nat) | (intro (K1:Kn _ _ _); (try clear K); rename Kn _ _ _ => K))); conv => whnf
  refine HM.loop gnm0 fun hg => ⟨fun n e z' => ∃ a : Nat, a ≤ l.length ∧ n = l.length - a ∧ e = EF xv (.sl 3 X 0 l.length none) i E a ∧ (∀ x ∈ l.take a, ltP x.1 (keyF m) = true) ∧ Kn s z' (LLF l X E m L),
    ⟨l.length, fg [3, 4, 5, 6, 7] _, _, WkM.fg hg, 0, Nat.zero_le _, rfl, rfl, fun x hx => by simp at hx, K⟩, ?_⟩
  clear K
  rintro n e z1 ⟨a, ha, rfl, rfl, hlt, K⟩
  unfold LLF at K
  conv => whnf
  refine kgo ?_; (repeat (first | intro (X:Nat) | intro (z:St) | intro (av:V) | intro (tk:Option Nat) | (intro (K1:Kn _ _ _); (try clear K); rename Kn _ _ _ => K))); conv => whnf
  cases hc : ltZ ((a : Nat) : Int) ((l.length : Nat) : Int) <;> conv => whnf
  · refine kgo ?_; (repeat (first | intro (X:Nat) | intro (z:St) | intro (av:V) | intro (tk:Option Nat) | (intro (K1:Kn _ _ _); (try clear K); rename Kn _ _ _ => K))); conv => whnf
    have hal : a = l.length := by rw [ltZ_eq] at hc; simp at hc; omega
    refine hQ _ _ ?_ K
    rw [twG_is ha hlt (fun y hy => by rw [List.getElem?_eq_none (by omega)] at hy; cases hy)]
    rfl
  · have hal : a < l.length := by rw [ltZ_eq] at hc; simp at hc; omega
    have hx : l[a]? = some l[a] := List.getElem?_eq_getElem hal
    generalize l[a] = x at hx
    have hstop : ltP x.1 (keyF m) = false → twG ltP (keyF m) l = a := fun h => twG_is ha hlt (fun y hy => by rw [hx] at hy; cases hy; exact h)
    have hgo : ltP x.1 (keyF m) = true → ∀ y ∈ l.take (a + 1), ltP y.1 (keyF m) = true := fun h y hy => by
      rw [List.take_add_one, hx] at hy
      rcases List.mem_append.1 hy with hy | hy
      · exact hlt y hy
      · simp at hy; subst hy; exact h
    have hc0 := atF hx 0 (by decide)
    have hc1 := atF hx 1 (by decide)
    simp only [csF, List.getElem?_cons_succ, List.getElem?_cons_zero] at hc0 hc1
    refine kgo ?_; (repeat (first | intro (X:Nat) | intro (z:St) | intro (av:V) | intro (tk:Option Nat) | (intro (K1:Kn _ _ _); (try clear K); rename Kn _ _ _ => K))); conv => whnf
    refine ⟨rfl, Int.natCast_nonneg _, by omega, ?_⟩
    conv => whnf
    refine kgo ?_; (repeat (first | intro (X:Nat) | intro (z:St) | intro (av:V) | intro (tk:Option Nat) | (intro (K1:Kn _ _ _); (try clear K); rename Kn _ _ _ => K))); conv => whnf
    cases hk1 : ltZ x.1.1 m.og <;> conv => whnf
    · refine kgo ?_; (repeat (first | intro (X:Nat) | intro (z:St) | intro (av:V) | intro (tk:Option Nat) | (intro (K1:Kn _ _ _); (try clear K); rename Kn _ _ _ => K))); conv => whnf
      refine ⟨rfl, Int.natCast_nonneg _, by omega, ?_⟩
      conv => whnf
      refine kgo ?_; (repeat (first | intro (X:Nat) | intro (z:St) | intro (av:V) | intro (tk:Option Nat) | (intro (K1:Kn _ _ _); (try clear K); rename Kn _ _ _ => K))); conv => whnf
      cases hk2 : eqZ x.1.1 m.og <;> conv => whnf
      · refine kgo ?_; (repeat (first | intro (X:Nat) | intro (z:St) | intro (av:V) | intro (tk:Option Nat) | (intro (K1:Kn _ _ _); (try clear K); rename Kn _ _ _ => K))); conv => whnf
        refine hQ _ _ ?_ K
        rw [hstop (by exact ltp_1 hk1 hk2)]
        rfl
      · refine kgo ?_; (repeat (first | intro (X:Nat) | intro (z:St) | intro (av:V) | intro (tk:Option Nat) | (intro (K1:Kn _ _ _); (try clear K); rename Kn _ _ _ => K))); conv => whnf
        refine ⟨rfl, Int.natCast_nonneg _, by omega, ?_⟩
        conv => whnf
        refine kgo ?_; (repeat (first | intro (X:Nat) | intro (z:St) | intro (av:V) | intro (tk:Option Nat) | (intro (K1:Kn _ _ _); (try clear K); rename Kn _ _ _ => K))); conv => whnf
        cases hk3 : ltZ x.1.2 m.to <;> conv => whnf
        · refine kgo ?_; (repeat (first | intro (X:Nat) | intro (z:St) | intro (av:V) | intro (tk:Option Nat) | (intro (K1:Kn _ _ _); (try clear K); rename Kn _ _ _ => K))); conv => whnf
          refine hQ _ _ ?_ K
          rw [hstop (by exact ltp_2 hk1 hk3)]
          rfl
        · refine kgo ?_; (repeat (first | intro (X:Nat) | intro (z:St) | intro (av:V) | intro (tk:Option Nat) | (intro (K1:Kn _ _ _); (try clear K); rename Kn _ _ _ => K))); conv => whnf
          intro hg'
          exact ⟨l.length - (a + 1), fg [3, 4, 5, 6, 7] _, _, by omega, WkM.fg hg', a + 1, hal, rfl, rfl, hgo (by exact ltp_3 hk2 hk3), K⟩
    · refine kgo ?_; (repeat (first | intro (X:Nat) | intro (z:St) | intro (av:V) | intro (tk:Option Nat) | (intro (K1:Kn _ _ _); (try clear K); rename Kn _ _ _ => K))); conv => whnf
      intro hg'
      exact ⟨l.length - (a + 1), fg [3, 4, 5, 6, 7] _, _, by omega, WkM.fg hg', a + 1, hal, rfl, rfl, hgo (by exact ltp_4 hk1), K⟩
theorem in1eF {s z : St} {L : List En} {Q : XM → List V → St → Prop} (K : Kn s z L) (xv : V) (i E : Nat)
    (hQ : ∀ e z', fg [3, 4, 5, 6, 7] e = EF xv .ns i E 0 → Kn s z' L → Q .nrm e z') :
    HM gt0 Tryz.prog s c21i (EF xv .ns i E 0) z Q := by
  refine kgo ?_; (repeat (first | intro (X:Nat) | intro (z:St) | intro (av:V) | intro (tk:Option Nat) | (intro (K1:Kn _ _ _); (try clear K); rename Kn _ _ _ => K))); conv => whnf
  refine HM.loop gnm0 fun hg => ⟨fun n e z' => e = EF xv .ns i E 0 ∧ Kn s z' L,
    ⟨0, fg [3, 4, 5, 6, 7] _, _, WkM.fg hg, rfl, K⟩, ?_⟩
  clear K
  rintro n e z1 ⟨rfl, K⟩
  conv => whnf
  refine kgo ?_; (repeat (first | intro (X:Nat) | intro (z:St) | intro (av:V) | intro (tk:Option Nat) | (intro (K1:Kn _ _ _); (try clear K); rename Kn _ _ _ => K))); conv => whnf
  exact hQ _ _ rfl K
theorem in2eF {s z : St} {E : Nat} {m : Mv} {L : List En} {Q : XM → List V → St → Prop} (K : Kn s z (.ob true E (.c m.e 0 (some 38)) :: L)) (xv : V) (i : Nat)
    (hQ : ∀ e z' X', fg [3, 4, 5, 6, 7] e = EF xv (.sl 3 X' 0 1 none) i E 0 → Kn s z' (LLF [(keyF m, s0F m)] X' E m L) → Q .nrm e z') :
    HM gt0 Tryz.prog s c21c (EF xv .ns i E 0) z Q := by
  refine kgo ?_; (repeat (first | intro (X:Nat) | intro (z:St) | intro (av:V) | intro (tk:Option Nat) | (intro (K1:Kn _ _ _); (try clear K); rename Kn _ _ _ => K))); conv => whnf
  refine ⟨_, _, slGN_to rfl rfl, ?_⟩
  conv => whnf
  refine kgo ?_; (repeat (first | intro (X:Nat) | intro (z:St) | intro (av:V) | intro (tk:Option Nat) | (intro (K1:Kn _ _ _); (try clear K); rename Kn _ _ _ => K))); conv => whnf
  refine ⟨_, _, app_z (v := .ns) rfl rfl rfl, ?_⟩
  conv => whnf
  have hE := K.get (w := true) .here
  refine kgo ?_; (repeat (first | intro (X:Nat) | intro (z:St) | intro (av:V) | intro (tk:Option Nat) | (intro (K1:Kn _ _ _); (try clear K); rename Kn _ _ _ => K))); conv => whnf
  obtain ⟨X1, z1, K1, ha1⟩ := mgN0 (t := 77) (ag := true) (sz := 3) (bytes := 24) (k := 1) (cells := [.i .i64 m.og, .i .i64 m.to, .i .i64 0]) K (by decide) (room_of (by omega) (by decide))
  refine ⟨_, _, ha1 _ _ _ rfl rfl, ?_⟩
  clear K ha1; rename Kn _ _ _ => K
  conv => whnf
  refine kgo ?_; (repeat (first | intro (X:Nat) | intro (z:St) | intro (av:V) | intro (tk:Option Nat) | (intro (K1:Kn _ _ _); (try clear K); rename Kn _ _ _ => K))); conv => whnf
  refine ⟨_, _, slGN_fr rfl rfl, ?_⟩
  conv => whnf
  refine ⟨stays_two (slGN_fr rfl rfl) (slGN_fr rfl rfl), ?_⟩
  conv => whnf
  refine kgo ?_; (repeat (first | intro (X:Nat) | intro (z:St) | intro (av:V) | intro (tk:Option Nat) | (intro (K1:Kn _ _ _); (try clear K); rename Kn _ _ _ => K))); conv => whnf
  refine ⟨_, _, app_sn (v := .ns) (K.get (w := true) .here) rfl rfl rfl, ?_⟩
  conv => whnf
  refine kgo ?_; (repeat (first | intro (X:Nat) | intro (z:St) | intro (av:V) | intro (tk:Option Nat) | (intro (K1:Kn _ _ _); (try clear K); rename Kn _ _ _ => K))); conv => whnf
  refine hQ _ _ X1 ?_ (K.cast (by rfl))
  rfl
noncomputable def c21n : C := sT (sB c21c)
theorem insEF {s z : St} {X E : Nat} {l : List RwF} {m : Mv} {L : List En} {Q : XM → List V → St → Prop} (hl : l.length ≤ 1000) (hp : 0 < l.length) (K : Kn s z (LLF l X E m L)) (xv : V) (i : Nat)
    (hQ : ∀ e z' X', fg [3, 4, 5, 6, 7] e = EF xv (.sl 3 X' 0 (putG l l.length (keyF m, s0F m)).length none) i E l.length → Kn s z' (LLF (putG l l.length (keyF m, s0F m)) X' E m L) → Q .nrm e z') :
    HM gt0 Tryz.prog s c21n (EF xv (.sl 3 X 0 l.length none) i E l.length) z Q := by
  unfold LLF at K
  refine kgo ?_; (repeat (first | intro (X:Nat) | intro (z:St) | intro (av:V) | intro (tk:Option Nat) | (intro (K1:Kn _ _ _); (try clear K); rename Kn _ _ _ => K))); conv => whnf
  refine ⟨_, _, slG_to (a := l.length) rfl rfl (Nat.le_refl _), ?_⟩
  conv => whnf
  refine kgo ?_; (repeat (first | intro (X:Nat) | intro (z:St) | intro (av:V) | intro (tk:Option Nat) | (intro (K1:Kn _ _ _); (try clear K); rename Kn _ _ _ => K))); conv => whnf
  have hg0 := K.get (w := true) .here
  have hE0 := K.get (w := true) (.there .here)
  have hs : srcOf z 3 (.sl 3 X 0 l.length none) = some (l.length, l.flatMap csF) := by
    simp only [srcOf, hg0]
    rw [if_pos ⟨trivial, by rw [cr_len csF_l]; omega⟩, List.drop_zero, ← cr_len csF_l, List.take_length]
  obtain ⟨X1, z1, K1, ha1⟩ := mgN0 (t := 77) (ag := true) (sz := 3) (bytes := 24) (cells := l.flatMap csF) K hp (room_of (by omega) (by decide))
  refine ⟨_, _, ha1 _ _ _ rfl hs, ?_⟩
  clear K ha1; rename Kn _ _ _ => K
  have hg1 := K.get (w := true) (.there .here)
  have hE1 := K.get (w := true) (.there (.there .here))
  conv => whnf
  refine kgo ?_; (repeat (first | intro (X:Nat) | intro (z:St) | intro (av:V) | intro (tk:Option Nat) | (intro (K1:Kn _ _ _); (try clear K); rename Kn _ _ _ => K))); conv => whnf
  obtain ⟨X2, z2, K1, ha2⟩ := mgN1 (k := 1) (sz := 3) (bytes := 24) (ag := true) (cells := [.i .i64 m.og, .i .i64 m.to, .i .i64 0]) K (cr_len csF_l l) (by decide) (room_of (by omega) (by decide)) (by decide)
  refine ⟨_, _, ha2 _ _ _ rfl rfl, ?_⟩
  clear K ha2; rename Kn _ _ _ => K
  have hg2 := K.get (w := true) (.there .here)
  have hg3 := K.get (w := true) .here
  conv => whnf
  refine kgo ?_; (repeat (first | intro (X:Nat) | intro (z:St) | intro (av:V) | intro (tk:Option Nat) | (intro (K1:Kn _ _ _); (try clear K); rename Kn _ _ _ => K))); conv => whnf
  refine ⟨_, _, slG_en rfl rfl hp (by decide) hg2 (cr_len csF_l l), ?_⟩
  conv => whnf
  refine ⟨stays_two (slG_en rfl rfl hp (by decide) hg1 (cr_len csF_l l)) (slG_en rfl rfl hp (by decide) hg0 (cr_len csF_l l)), ?_⟩
  conv => whnf
  refine kgo ?_; (repeat (first | intro (X:Nat) | intro (z:St) | intro (av:V) | intro (tk:Option Nat) | (intro (K1:Kn _ _ _); (try clear K); rename Kn _ _ _ => K))); conv => whnf
  refine ⟨_, _, apG_se hg3 rfl rfl, ?_⟩
  conv => whnf
  refine kgo ?_; (repeat (first | intro (X:Nat) | intro (z:St) | intro (av:V) | intro (tk:Option Nat) | (intro (K1:Kn _ _ _); (try clear K); rename Kn _ _ _ => K))); conv => whnf
  have hpl : (putG l l.length (keyF m, s0F m)).length = l.length + 1 := by simp [putG]
  refine hQ _ _ X2 ?_ ((K.drop1 rfl).cast (by simp only [LLF, putG, List.take_length, List.drop_length, List.flatMap_append, List.flatMap_cons, List.flatMap_nil]; rfl))
  rw [hpl]; rfl
theorem insMF {s z : St} {X E : Nat} {l : List RwF} {m : Mv} {L : List En} {Q : XM → List V → St → Prop} (hl : l.length ≤ 1000) (K : Kn s z (LLF l X E m L)) (xv : V) (i a : Nat) (hlt : a < l.length)
    (hQ : ∀ e z' X', fg [3, 4, 5, 6, 7] e = EF xv (.sl 3 X' 0 (putG l a (keyF m, s0F m)).length none) i E a → Kn s z' (LLF (putG l a (keyF m, s0F m)) X' E m L) → Q .nrm e z') :
    HM gt0 Tryz.prog s c21n (EF xv (.sl 3 X 0 l.length none) i E a) z Q := by
  unfold LLF at K
  refine kgo ?_; (repeat (first | intro (X:Nat) | intro (z:St) | intro (av:V) | intro (tk:Option Nat) | (intro (K1:Kn _ _ _); (try clear K); rename Kn _ _ _ => K))); conv => whnf
  refine ⟨_, _, slG_to (a := a) rfl rfl (by omega), ?_⟩
  conv => whnf
  refine kgo ?_; (repeat (first | intro (X:Nat) | intro (z:St) | intro (av:V) | intro (tk:Option Nat) | (intro (K1:Kn _ _ _); (try clear K); rename Kn _ _ _ => K))); conv => whnf
  have hg0 := K.get (w := true) .here
  have hE0 := K.get (w := true) (.there .here)
  have hs : srcOf z 3 (.sl 3 X 0 a none) = some (a, (l.take a).flatMap csF) := by
    simp only [srcOf, hg0]
    rw [if_pos ⟨trivial, by rw [cr_len csF_l]; omega⟩, List.drop_zero, cr_take csF_l]
  have hd : ∀ z', z'.get X = some (.c (l.flatMap csF) 0 (some 77)) → srcOf z' 3 (.sl 3 X (0 + a * 3) (l.length - a) none) = some (l.length - a, (l.drop a).flatMap csF) := by
    intro z' hz
    simp only [srcOf, hz]
    rw [if_pos ⟨trivial, by rw [cr_len csF_l]; omega⟩, Nat.zero_add, cr_drop csF_l, List.take_of_length_le]
    rw [← cr_drop csF_l, cr_len csF_l, List.length_drop]; omega
  have hpl := putG_len (y := (keyF m, s0F m)) (Nat.le_of_lt hlt)
  rcases Nat.eq_zero_or_pos a with h0 | h0
  · refine ⟨.ns, z, ?_, ?_⟩
    · subst h0; exact app_z rfl rfl hs
    conv => whnf
    refine kgo ?_; (repeat (first | intro (X:Nat) | intro (z:St) | intro (av:V) | intro (tk:Option Nat) | (intro (K1:Kn _ _ _); (try clear K); rename Kn _ _ _ => K))); conv => whnf
    obtain ⟨X1, z1, K1, ha1⟩ := mgN0 (t := 77) (ag := true) (sz := 3) (bytes := 24) (k := 1) (cells := [.i .i64 m.og, .i .i64 m.to, .i .i64 0]) K (by decide) (room_of (by omega) (by decide))
    refine ⟨_, _, ha1 _ _ _ rfl rfl, ?_⟩
    clear K ha1; rename Kn _ _ _ => K
    have hg1 := K.get (w := true) (.there .here)
    conv => whnf
    refine kgo ?_; (repeat (first | intro (X:Nat) | intro (z:St) | intro (av:V) | intro (tk:Option Nat) | (intro (K1:Kn _ _ _); (try clear K); rename Kn _ _ _ => K))); conv => whnf
    refine ⟨_, _, slG_fr (a := a) (n := l.length) rfl rfl hlt, ?_⟩
    conv => whnf
    refine ⟨stays_two (slG_fr (a := a) (n := l.length) rfl rfl hlt) (slG_fr (a := a) (n := l.length) rfl rfl hlt), ?_⟩
    conv => whnf
    refine kgo ?_; (repeat (first | intro (X:Nat) | intro (z:St) | intro (av:V) | intro (tk:Option Nat) | (intro (K1:Kn _ _ _); (try clear K); rename Kn _ _ _ => K))); conv => whnf
    obtain ⟨X3, z3, K1, ha3⟩ := mgN1 (k := l.length - a) (sz := 3) (bytes := 24) (n := 1) (ag := true) (cells := (l.drop a).flatMap csF) K rfl (by omega) (room_of (by omega) (by decide)) (by decide)
    refine ⟨_, _, ha3 _ _ _ rfl (hd _ hg1), ?_⟩
    clear K ha3; rename Kn _ _ _ => K
    conv => whnf
    refine kgo ?_; (repeat (first | intro (X:Nat) | intro (z:St) | intro (av:V) | intro (tk:Option Nat) | (intro (K1:Kn _ _ _); (try clear K); rename Kn _ _ _ => K))); conv => whnf
    refine hQ _ _ X3 ?_ ((K.drop1 rfl).cast (by subst h0; rfl))
    rw [hpl]; subst h0; rw [Nat.zero_add]; rfl
  · obtain ⟨X1, z1, K1, ha1⟩ := mgN0 (t := 77) (ag := true) (sz := 3) (bytes := 24) (cells := (l.take a).flatMap csF) K h0 (room_of (by omega) (by decide))
    refine ⟨_, _, ha1 _ _ _ rfl hs, ?_⟩
    clear K ha1; rename Kn _ _ _ => K
    have hg1 := K.get (w := true) (.there .here)
    have hE1 := K.get (w := true) (.there (.there .here))
    conv => whnf
    refine kgo ?_; (repeat (first | intro (X:Nat) | intro (z:St) | intro (av:V) | intro (tk:Option Nat) | (intro (K1:Kn _ _ _); (try clear K); rename Kn _ _ _ => K))); conv => whnf
    obtain ⟨X2, z2, K1, ha2⟩ := mgN1 (k := 1) (sz := 3) (bytes := 24) (n := a) (ag := true) (cells := [.i .i64 m.og, .i .i64 m.to, .i .i64 0]) K (by rw [cr_len csF_l, List.length_take]; omega) (by decide) (room_of (by omega) (by decide)) (by decide)
    refine ⟨_, _, ha2 _ _ _ rfl rfl, ?_⟩
    clear K ha2; rename Kn _ _ _ => K
    have hg2 := K.get (w := true) (.there .here)
    conv => whnf
    refine kgo ?_; (repeat (first | intro (X:Nat) | intro (z:St) | intro (av:V) | intro (tk:Option Nat) | (intro (K1:Kn _ _ _); (try clear K); rename Kn _ _ _ => K))); conv => whnf
    refine ⟨_, _, slG_fr (a := a) (n := l.length) rfl rfl hlt, ?_⟩
    conv => whnf
    refine ⟨stays_two (slG_fr (a := a) (n := l.length) rfl rfl hlt) (slG_fr (a := a) (n := l.length) rfl rfl hlt), ?_⟩
    conv => whnf
    refine kgo ?_; (repeat (first | intro (X:Nat) | intro (z:St) | intro (av:V) | intro (tk:Option Nat) | (intro (K1:Kn _ _ _); (try clear K); rename Kn _ _ _ => K))); conv => whnf
    obtain ⟨X3, z3, K1, ha3⟩ := mgN1 (k := l.length - a) (sz := 3) (bytes := 24) (n := a + 1) (ag := true) (cells := (l.drop a).flatMap csF) K (by rw [List.length_append, cr_len csF_l, List.length_take, Nat.min_eq_left (by omega)]; simp; omega) (by omega) (room_of (by omega) (by decide)) (by decide)
    refine ⟨_, _, ha3 _ _ _ rfl (hd _ hg2), ?_⟩
    clear K ha3; rename Kn _ _ _ => K
    conv => whnf
    refine kgo ?_; (repeat (first | intro (X:Nat) | intro (z:St) | intro (av:V) | intro (tk:Option Nat) | (intro (K1:Kn _ _ _); (try clear K); rename Kn _ _ _ => K))); conv => whnf
    refine hQ _ _ X3 ?_ ((K.drop1 rfl).cast (by simp only [LLF, putG, List.flatMap_append, List.flatMap_cons, List.append_assoc]; rfl))
    rw [hpl]; rfl
theorem in2F {s z : St} {X E : Nat} {l : List RwF} {m : Mv} {L : List En} {Q : XM → List V → St → Prop} (hl : l.length ≤ 1000) (hp : 0 < l.length) (K : Kn s z (LLF l X E m L)) (xv : V) (i a : Nat) (ha : a ≤ l.length) (hn : ∀ y, l[a]? = some y → y.1 ≠ keyF m)
    (hQ : ∀ e z' X', fg [3, 4, 5, 6, 7] e = EF xv (.sl 3 X' 0 (putG l a (keyF m, s0F m)).length none) i E a → Kn s z' (LLF (putG l a (keyF m, s0F m)) X' E m L) → Q .nrm e z') :
    HM gt0 Tryz.prog s c21c (EF xv (.sl 3 X 0 l.length none) i E a) z Q := by
  refine HM.seq (a := sA c21c) ?_
  generalize hR : mS gt0 Tryz.prog s _ _ = R
  have K0 := K
  unfold LLF at K
  rcases Nat.lt_or_ge a l.length with hal | hal
  · have hx : l[a]? = some l[a] := List.getElem?_eq_getElem hal
    generalize l[a] = x at hx
    have hnx := hn x hx
    have hc0 := atF hx 0 (by decide)
    have hc1 := atF hx 1 (by decide)
    simp only [csF, List.getElem?_cons_succ, List.getElem?_cons_zero] at hc0 hc1
    refine kgo ?_; (repeat (first | intro (X:Nat) | intro (z:St) | intro (av:V) | intro (tk:Option Nat) | (intro (K1:Kn _ _ _); (try clear K); rename Kn _ _ _ => K))); conv => whnf
    rw [show eqZ ((a : Nat) : Int) ((l.length : Nat) : Int) = false by rw [eqZ_eq]; simp; omega]
    conv => whnf
    refine kgo ?_; (repeat (first | intro (X:Nat) | intro (z:St) | intro (av:V) | intro (tk:Option Nat) | (intro (K1:Kn _ _ _); (try clear K); rename Kn _ _ _ => K))); conv => whnf
    refine ⟨rfl, Int.natCast_nonneg _, by omega, ?_⟩
    conv => whnf
    refine kgo ?_; (repeat (first | intro (X:Nat) | intro (z:St) | intro (av:V) | intro (tk:Option Nat) | (intro (K1:Kn _ _ _); (try clear K); rename Kn _ _ _ => K))); conv => whnf
    cases hk1 : eqZ x.1.1 m.og <;> conv => whnf
    · refine kgo ?_; (repeat (first | intro (X:Nat) | intro (z:St) | intro (av:V) | intro (tk:Option Nat) | (intro (K1:Kn _ _ _); (try clear K); rename Kn _ _ _ => K))); conv => whnf
      subst hR
      refine HM.cond (c := .t 83) (a := c21n) (b := .skip) ?_
      show HM gt0 Tryz.prog s c21n _ _ Q
      refine HM.fgt (c := c21n) gnm0 [3, 4, 5, 6, 7] fun _ => ?_
      exact insMF hl K0 xv i a hal hQ
    · refine kgo ?_; (repeat (first | intro (X:Nat) | intro (z:St) | intro (av:V) | intro (tk:Option Nat) | (intro (K1:Kn _ _ _); (try clear K); rename Kn _ _ _ => K))); conv => whnf
      refine ⟨rfl, Int.natCast_nonneg _, by omega, ?_⟩
      conv => whnf
      refine kgo ?_; (repeat (first | intro (X:Nat) | intro (z:St) | intro (av:V) | intro (tk:Option Nat) | (intro (K1:Kn _ _ _); (try clear K); rename Kn _ _ _ => K))); conv => whnf
      rw [show eqZ x.1.2 m.to = false from eqp_f (b := keyF m) hnx hk1]
      conv => whnf
      refine kgo ?_; (repeat (first | intro (X:Nat) | intro (z:St) | intro (av:V) | intro (tk:Option Nat) | (intro (K1:Kn _ _ _); (try clear K); rename Kn _ _ _ => K))); conv => whnf
      subst hR
      refine HM.cond (c := .t 83) (a := c21n) (b := .skip) ?_
      show HM gt0 Tryz.prog s c21n _ _ Q
      refine HM.fgt (c := c21n) gnm0 [3, 4, 5, 6, 7] fun _ => ?_
      exact insMF hl K0 xv i a hal hQ
  · have hal2 : a = l.length := by omega
    subst hal2
    refine kgo ?_; (repeat (first | intro (X:Nat) | intro (z:St) | intro (av:V) | intro (tk:Option Nat) | (intro (K1:Kn _ _ _); (try clear K); rename Kn _ _ _ => K))); conv => whnf
    rw [show eqZ ((l.length : Nat) : Int) ((l.length : Nat) : Int) = true by rw [eqZ_eq]; simp]
    conv => whnf
    refine kgo ?_; (repeat (first | intro (X:Nat) | intro (z:St) | intro (av:V) | intro (tk:Option Nat) | (intro (K1:Kn _ _ _); (try clear K); rename Kn _ _ _ => K))); conv => whnf
    subst hR
    refine HM.cond (c := .t 83) (a := c21n) (b := .skip) ?_
    show HM gt0 Tryz.prog s c21n _ _ Q
    refine HM.fgt (c := c21n) gnm0 [3, 4, 5, 6, 7] fun _ => ?_
    exact insEF hl hp K0 xv i hQ
theorem in2hF {s z : St} {X E : Nat} {l : List RwF} {m : Mv} {L : List En} {Q : XM → List V → St → Prop} (K : Kn s z (LLF l X E m L)) (xv : V) (i a : Nat) (x : RwF) (hx : l[a]? = some x) (hk : x.1 = keyF m)
    (hQ : ∀ e z', fg [3, 4, 5, 6, 7] e = EF xv (.sl 3 X 0 l.length none) i E a → Kn s z' (LLF l X E m L) → Q .nrm e z') :
    HM gt0 Tryz.prog s c21c (EF xv (.sl 3 X 0 l.length none) i E a) z Q := by
  have hal : a < l.length := by
    rcases Nat.lt_or_ge a l.length with h | h
    · exact h
    · rw [List.getElem?_eq_none h] at hx; cases hx
  unfold LLF at K
  have hc0 := atF hx 0 (by decide)
  have hc1 := atF hx 1 (by decide)
  simp only [csF, List.getElem?_cons_succ, List.getElem?_cons_zero] at hc0 hc1
  refine kgo ?_; (repeat (first | intro (X:Nat) | intro (z:St) | intro (av:V) | intro (tk:Option Nat) | (intro (K1:Kn _ _ _); (try clear K); rename Kn _ _ _ => K))); conv => whnf
  rw [show eqZ ((a : Nat) : Int) ((l.length : Nat) : Int) = false by rw [eqZ_eq]; simp; omega]
  conv => whnf
  refine kgo ?_; (repeat (first | intro (X:Nat) | intro (z:St) | intro (av:V) | intro (tk:Option Nat) | (intro (K1:Kn _ _ _); (try clear K); rename Kn _ _ _ => K))); conv => whnf
  refine ⟨rfl, Int.natCast_nonneg _, by omega, ?_⟩
  conv => whnf
  refine kgo ?_; (repeat (first | intro (X:Nat) | intro (z:St) | intro (av:V) | intro (tk:Option Nat) | (intro (K1:Kn _ _ _); (try clear K); rename Kn _ _ _ => K))); conv => whnf
  rw [show eqZ x.1.1 m.og = true by rw [hk, eqZ_eq]; simp [keyF]]
  conv => whnf
  refine kgo ?_; (repeat (first | intro (X:Nat) | intro (z:St) | intro (av:V) | intro (tk:Option Nat) | (intro (K1:Kn _ _ _); (try clear K); rename Kn _ _ _ => K))); conv => whnf
  refine ⟨rfl, Int.natCast_nonneg _, by omega, ?_⟩
  conv => whnf
  refine kgo ?_; (repeat (first | intro (X:Nat) | intro (z:St) | intro (av:V) | intro (tk:Option Nat) | (intro (K1:Kn _ _ _); (try clear K); rename Kn _ _ _ => K))); conv => whnf
  rw [show eqZ x.1.2 m.to = true by rw [hk, eqZ_eq]; simp [keyF]]
  conv => whnf
  refine kgo ?_; (repeat (first | intro (X:Nat) | intro (z:St) | intro (av:V) | intro (tk:Option Nat) | (intro (K1:Kn _ _ _); (try clear K); rename Kn _ _ _ => K))); conv => whnf
  exact hQ _ _ rfl K
theorem in3F {s z : St} {X E : Nat} {l : List RwF} {L : List En} {Q : XM → List V → St → Prop} (ms : List Mv) (i a : Nat) (m : Mv) (K : Kn s z (LLF l X E m L)) (hm : (evs ms)[i]? = some m) (x : RwF) (hx : l[a]? = some x)
    (hQ : ∀ e z', fg [3, 4, 5, 6, 7] e = EF (.pu 9 ((evs ms).map Mv.o) .u) (.sl 3 X 0 (l.set a (x.1, gF m x.2)).length none) i E a → Kn s z' (LLF (l.set a (x.1, gF m x.2)) X E m L) → Q .nrm e z') :
    HM gt0 Tryz.prog s c21s (EF (.pu 9 ((evs ms).map Mv.o) .u) (.sl 3 X 0 l.length none) i E a) z Q := by
  unfold LLF at K
  have hal : a < l.length := by
    rcases Nat.lt_or_ge a l.length with h | h
    · exact h
    · rw [List.getElem?_eq_none h] at hx; cases hx
  have hmm : ((evs ms).map Mv.o)[((i : Nat) : Int).toNat]? = some m.o := by simp [hm]
  obtain ⟨l0, hl0⟩ : ∃ l0, l0 = l := ⟨_, rfl⟩
  have hx0 : l0[a]? = some x := by rw [hl0]; exact hx
  have hal0 : a < l0.length := by rw [hl0]; exact hal
  have hll0 : l0.length = l.length := by rw [hl0]
  rw [← hl0] at K
  have hcs0 := atF hx0 2 (by decide)
  simp only [csF, List.getElem?_cons_succ, List.getElem?_cons_zero] at hcs0
  have hX0 := K.get (w := true) .here
  refine kgo ?_; (repeat (first | intro (X:Nat) | intro (z:St) | intro (av:V) | intro (tk:Option Nat) | (intro (K1:Kn _ _ _); (try clear K); rename Kn _ _ _ => K))); conv => whnf
  have hlt0 : 0 + ((a : Nat) : Int).toNat * 3 + 2 + 1 ≤ (l0.flatMap csF).length := by rw [cr_len csF_l, Int.toNat_natCast]; omega
  refine HO.opA (krun_store (n := 1) (l := X) (o := 0 + ((a : Nat) : Int).toNat * 3 + 2) (v := .i .i64 (wrapF .i64 (x.2 + 1))) (cs' := (l0.set a (x.1, wrapF .i64 (x.2 + 1))).flatMap csF) rfl rfl hX0 rfl rfl (Nat.zero_le _) hlt0 (by simpa using (show setAt (l0.flatMap csF) (a * 3 + 2) (V.i .i64 (wrapF .i64 (x.2 + 1))).cells = _ from cr_set (x := x) csF_l (fun r => rfl) l0 a hx0))) ?_
  have K1 := K.put (o' := .c ((l0.set a (x.1, wrapF .i64 (x.2 + 1))).flatMap csF) 0 (some 77)) .here (fun h => by cases h)
  clear K; rename Kn _ _ _ => K
  obtain ⟨l1, hl1⟩ : ∃ l1, l1 = l0.set a (x.1, wrapF .i64 (x.2 + 1)) := ⟨_, rfl⟩
  rw [← hl1] at K ⊢
  have hx1 : l1[a]? = some (x.1, wrapF .i64 (x.2 + 1)) := by rw [hl1, List.getElem?_set_self hal0]
  have hal1 : a < l1.length := by rw [hl1, List.length_set]; exact hal0
  clear hcs0
  conv => whnf
  refine kgo ?_; (repeat (first | intro (X:Nat) | intro (z:St) | intro (av:V) | intro (tk:Option Nat) | (intro (K1:Kn _ _ _); (try clear K); rename Kn _ _ _ => K))); conv => whnf
  rw [hl1, hl0] at K ⊢
  rw [List.length_set] at hQ
  exact hQ _ _ rfl K
theorem tailF {s z : St} {X E : Nat} {l : List RwF} {L : List En} {Q : XM → List V → St → Prop} (hl : l.length ≤ 1000) (hp : 0 < l.length) (ms : List Mv) (i : Nat) (m : Mv) (K : Kn s z (LLF l X E m L)) (hm : (evs ms)[i]? = some m)
    (hQ : ∀ e z' X', fg [3, 4, 5, 6, 7] e = EF (.pu 9 ((evs ms).map Mv.o) .u) (.sl 3 X' 0 (insR ltP (fF m) (keyF m) l).length none) i E (twG ltP (keyF m) l) → Kn s z' (LLF (insR ltP (fF m) (keyF m) l) X' E m L) → Q .nrm e z') :
    HM gt0 Tryz.prog s (.seq c21i (.seq c21c c21s)) (EF (.pu 9 ((evs ms).map Mv.o) .u) (.sl 3 X 0 l.length none) i E 0) z Q := by
  refine HM.seq (in1F hl K _ i fun e z1 he K => ?_)
  refine HM.fgt (c := .seq c21c c21s) gnm0 [3, 4, 5, 6, 7] fun _ => ?_
  rw [he]
  refine HM.seq (a := c21c) ?_
  by_cases hit : ∃ x, l[twG ltP (keyF m) l]? = some x ∧ x.1 = keyF m
  · obtain ⟨x, hx, hk⟩ := hit
    refine in2hF K _ i _ x hx hk fun e z2 he K => ?_
    refine HM.fgt (c := c21s) gnm0 [3, 4, 5, 6, 7] fun _ => ?_
    rw [he]
    refine in3F ms i _ m K hm x hx fun e z3 he K => ?_
    rw [insG_hit ordP hx hk] at hQ
    exact hQ e z3 X he K
  · have hn : ∀ y, l[twG ltP (keyF m) l]? = some y → y.1 ≠ keyF m := fun y hy he => hit ⟨y, hy, he⟩
    refine in2F hl hp K _ i _ (twG_le _ _) hn fun e z2 X2 he K => ?_
    refine HM.fgt (c := c21s) gnm0 [3, 4, 5, 6, 7] fun _ => ?_
    rw [he]
    refine in3F ms i _ m K hm (keyF m, s0F m) (putG_at (twG_le _ _) _) fun e z3 he K => ?_
    rw [insG_new (keyF m, s0F m) hn] at hQ
    exact hQ e z3 X2 he K
theorem tailEF {s z : St} {E : Nat} {L : List En} {Q : XM → List V → St → Prop} (ms : List Mv) (i : Nat) (m : Mv) (K : Kn s z (.ob true E (.c m.e 0 (some 38)) :: L)) (hm : (evs ms)[i]? = some m)
    (hQ : ∀ e z' X', fg [3, 4, 5, 6, 7] e = EF (.pu 9 ((evs ms).map Mv.o) .u) (.sl 3 X' 0 (insR ltP (fF m) (keyF m) []).length none) i E 0 → Kn s z' (LLF (insR ltP (fF m) (keyF m) []) X' E m L) → Q .nrm e z') :
    HM gt0 Tryz.prog s (.seq c21i (.seq c21c c21s)) (EF (.pu 9 ((evs ms).map Mv.o) .u) .ns i E 0) z Q := by
  refine HM.seq (in1eF K _ i E fun e z1 he K => ?_)
  refine HM.fgt (c := .seq c21c c21s) gnm0 [3, 4, 5, 6, 7] fun _ => ?_
  rw [he]
  refine HM.seq (a := c21c) ?_
  refine in2eF K _ i fun e z2 X2 he K => ?_
  refine HM.fgt (c := c21s) gnm0 [3, 4, 5, 6, 7] fun _ => ?_
  rw [he]
  refine in3F ms i 0 m K hm (keyF m, s0F m) rfl fun e z3 he K => ?_
  exact hQ e z3 X2 he K
def refF (es : List Mv) : List RwF := es.foldl (fun l m => insR ltP (fF m) (keyF m) l) []
theorem ref_stepF (es : List Mv) (i : Nat) (m : Mv) (h : es[i]? = some m) : refF (es.take (i + 1)) = insR ltP (fF m) (keyF m) (refF (es.take i)) := by
  unfold refF
  rw [List.take_add_one, h, List.foldl_append]; rfl
theorem ref_lenF (es : List Mv) : ∀ i, i ≤ es.length → (refF (es.take i)).length ≤ i
  | 0, _ => by simp [refF]
  | i + 1, h => by
    have hm : es[i]? = some es[i] := List.getElem?_eq_getElem (by omega)
    rw [ref_stepF es i _ hm]
    have := ref_lenF es i (by omega)
    have := (insG_len (lt := ltP) (f := fF es[i]) (k := keyF es[i]) (refF (es.take i))).2
    omega
theorem rdF {z : St} {X : Nat} {t : Option Nat} {l : List RwF} (hg : z.get X = some (.c (l.flatMap csF) 0 t)) : Rd z (.sl 3 X 0 l.length none) (.pu 3 (l.map fun x => .ag (csF x)) .u) := by
  refine .sl 3 X 0 l.length none _ _ _ _ hg (by rw [cr_len csF_l]; omega) (List.length_map ..) (fun i hi => ?_) (fun i j hi hj => ?_)
  · have hx : l[i]? = some l[i] := List.getElem?_eq_getElem hi
    simp [List.getD_eq_getElem?_getD, hx, V.cells, csF]
  · have hx : l[i]? = some l[i] := List.getElem?_eq_getElem hi
    generalize l[i] = x at hx
    have h1 : (l.flatMap csF).getD (0 + i * 3 + j) .bad = ((l.map fun x => V.ag (csF x)).getD i .bad).cells.getD j .bad := by
      rw [Nat.zero_add, List.getD_eq_getElem?_getD, cr_at csF_l l i j x hx hj]
      simp [List.getD_eq_getElem?_getD, hx, V.cells]
    rw [h1]; exact .refl _
theorem nmF {n : Nat → Prop} (l : List RwF) : Nm n (.pu 3 (l.map fun x => .ag (csF x)) .u) := by
  refine .pu _ _ _ (fun v hv => ?_) (fun k hk => by cases hk)
  obtain ⟨x, _, rfl⟩ := List.mem_map.1 hv
  refine .ag _ fun c hc => ?_
  simp only [csF, List.mem_cons, List.not_mem_nil, or_false] at hc
  rcases hc with rfl | rfl | rfl <;> exact .i _ _
def ELF (xv rv : V) (i : Nat) : List V := (.bad :: .bad :: .bad :: xv :: rv :: .i .i64 (i : Nat) :: List.replicate 103 .bad)
theorem refF_den (ms : List Mv) (hms : ms.length ≤ 1000) (hn : ∀ m ∈ ms, Nm s0.L m.v) (s : St) (hx : NoX s) :
    Den gt0 Tryz.prog 22 [.pu 47 (ms.map Mv.v) .u] s (.pu 3 ((refF (evs ms)).map fun x => .ag (csF x)) .u) s := by
  refine Den.tidy fun hty => Den.hmr gnm0 hF22m ?_
  have K := Kn.init hty.1 hx
  conv => whnf
  refine kgo ?_; (repeat (first | intro (X:Nat) | intro (z:St) | intro (av:V) | intro (tk:Option Nat) | (intro (K1:Kn _ _ _); (try clear K); rename Kn _ _ _ => K))); conv => whnf
  refine ⟨_, _, events_den ms hms hn s hx, ?_⟩
  conv => whnf
  refine kgo ?_; (repeat (first | intro (X:Nat) | intro (z:St) | intro (av:V) | intro (tk:Option Nat) | (intro (K1:Kn _ _ _); (try clear K); rename Kn _ _ _ => K))); conv => whnf
  obtain ⟨E, hE⟩ : ∃ E, E = evs ms := ⟨_, rfl⟩
  have hEl : E.length ≤ 1000 := by
    have := List.length_filter_le isEv ms
    rw [hE]; unfold evs; omega
  refine HM.loop gnm0 fun hg => ⟨fun n e z => ∃ i : Nat, i ≤ E.length ∧ n = E.length - i ∧ ((i = 0 ∧ e = ELF (.pu 9 ((evs ms).map Mv.o) .u) .ns i ∧ Kn s z []) ∨
      ∃ X, 0 < (refF (E.take i)).length ∧ e = ELF (.pu 9 ((evs ms).map Mv.o) .u) (.sl 3 X 0 (refF (E.take i)).length none) i ∧ Kn s z [.ob true X (.c ((refF (E.take i)).flatMap csF) 0 (some 77))]),
    ⟨E.length, fg [3, 4, 5] _, _, WkM.fg hg, 0, Nat.zero_le _, rfl, .inl ⟨rfl, rfl, K⟩⟩, ?_⟩
  clear K
  have hEm : ((evs ms).map Mv.o).length = E.length := by rw [hE, List.length_map]
  rintro n e z1 ⟨i, hi, rfl, ⟨h0, rfl, K⟩ | ⟨X, hp, rfl, K⟩⟩
  · conv => whnf
    refine kgo ?_; (repeat (first | intro (X:Nat) | intro (z:St) | intro (av:V) | intro (tk:Option Nat) | (intro (K1:Kn _ _ _); (try clear K); rename Kn _ _ _ => K))); conv => whnf
    rw [hEm]
    refine brL ⟨fun hlt => ?_, fun hge => ?_⟩ <;> conv => whnf
    · have hlt' : i < (evs ms).length := by rw [← hE]; exact hlt
      have hm : (evs ms)[i]? = some (evs ms)[i] := List.getElem?_eq_getElem hlt'
      generalize (evs ms)[i] = m at hm
      have hmm : ((evs ms).map Mv.o)[((i : Nat) : Int).toNat]? = some m.o := by simp [hm]
      refine HM.skip ?_
      refine HM.seq (HM.blk (HM.seq ?_))
      generalize hR : mS gt0 Tryz.prog s _ _ = R
      conv => whnf
      refine kgo ?_; (repeat (first | intro (X:Nat) | intro (z:St) | intro (av:V) | intro (tk:Option Nat) | (intro (K1:Kn _ _ _); (try clear K); rename Kn _ _ _ => K))); conv => whnf
      subst hR
      refine HM.seq (a := .ops _) ?_
      generalize hR : mS gt0 Tryz.prog s _ _ = R
      conv => whnf
      refine kgo ?_; (repeat (first | intro (X:Nat) | intro (z:St) | intro (av:V) | intro (tk:Option Nat) | (intro (K1:Kn _ _ _); (try clear K); rename Kn _ _ _ => K))); conv => whnf
      subst hR
      refine HM.fgt (c := .seq c21i (.seq c21c c21s)) gnm0 [3, 4, 5, 6, 7] fun _ => ?_
      refine tailEF (L := []) ms i m K hm fun e z2 X2 he K => ?_
      refine HM.fgt (c := .ops _) gnm0 [3, 4, 5, 6, 7] fun _ => ?_
      rw [he]
      have hst : refF (E.take (i + 1)) = insR ltP (fF m) (keyF m) [] := by
        rw [ref_stepF E i m (by rw [hE]; exact hm), h0]; rfl
      rw [← hst] at K ⊢
      have hpp : 0 < (refF (E.take (i + 1))).length := by rw [hst]; exact (insG_len _).1
      unfold LLF at K
      have K1 := K.drop1 rfl
      clear K; rename Kn _ _ _ => K
      conv => whnf
      refine kgo ?_; (repeat (first | intro (X:Nat) | intro (z:St) | intro (av:V) | intro (tk:Option Nat) | (intro (K1:Kn _ _ _); (try clear K); rename Kn _ _ _ => K))); conv => whnf
      intro hg'
      exact ⟨E.length - (i + 1), fg [3, 4, 5] _, _, by omega, WkM.fg hg', i + 1, hlt, rfl, .inr ⟨X2, hpp, rfl, K⟩⟩
    · refine kgo ?_; (repeat (first | intro (X:Nat) | intro (z:St) | intro (av:V) | intro (tk:Option Nat) | (intro (K1:Kn _ _ _); (try clear K); rename Kn _ _ _ => K))); conv => whnf
      have hE0 : evs ms = [] := by rw [← hE]; exact List.eq_nil_of_length_eq_zero (by omega)
      exact K.retR [.ns] hty hx (nmF _) (.refl _) (by rw [hE0]; exact .one (.ns 3))
  · conv => whnf
    refine kgo ?_; (repeat (first | intro (X:Nat) | intro (z:St) | intro (av:V) | intro (tk:Option Nat) | (intro (K1:Kn _ _ _); (try clear K); rename Kn _ _ _ => K))); conv => whnf
    rw [hEm]
    refine brL ⟨fun hlt => ?_, fun hge => ?_⟩ <;> conv => whnf
    · have hlt' : i < (evs ms).length := by rw [← hE]; exact hlt
      have hm : (evs ms)[i]? = some (evs ms)[i] := List.getElem?_eq_getElem hlt'
      generalize (evs ms)[i] = m at hm
      have hmm : ((evs ms).map Mv.o)[((i : Nat) : Int).toNat]? = some m.o := by simp [hm]
      have hln := ref_lenF E i hi
      refine HM.skip ?_
      refine HM.seq (HM.blk (HM.seq ?_))
      generalize hR : mS gt0 Tryz.prog s _ _ = R
      conv => whnf
      refine kgo ?_; (repeat (first | intro (X:Nat) | intro (z:St) | intro (av:V) | intro (tk:Option Nat) | (intro (K1:Kn _ _ _); (try clear K); rename Kn _ _ _ => K))); conv => whnf
      subst hR
      refine HM.seq (a := .ops _) ?_
      generalize hR : mS gt0 Tryz.prog s _ _ = R
      conv => whnf
      refine kgo ?_; (repeat (first | intro (X:Nat) | intro (z:St) | intro (av:V) | intro (tk:Option Nat) | (intro (K1:Kn _ _ _); (try clear K); rename Kn _ _ _ => K))); conv => whnf
      subst hR
      refine HM.fgt (c := .seq c21i (.seq c21c c21s)) gnm0 [3, 4, 5, 6, 7] fun _ => ?_
      refine tailF (L := []) (by omega) hp ms i m (kperm2 K) hm fun e z2 X2 he K => ?_
      refine HM.fgt (c := .ops _) gnm0 [3, 4, 5, 6, 7] fun _ => ?_
      rw [he]
      have hst : refF (E.take (i + 1)) = insR ltP (fF m) (keyF m) (refF (E.take i)) := by
        rw [ref_stepF E i m (by rw [hE]; exact hm)]
      rw [← hst] at K ⊢
      have hpp : 0 < (refF (E.take (i + 1))).length := by rw [hst]; exact (insG_len _).1
      unfold LLF at K
      have K1 := K.drop1 rfl
      clear K; rename Kn _ _ _ => K
      conv => whnf
      refine kgo ?_; (repeat (first | intro (X:Nat) | intro (z:St) | intro (av:V) | intro (tk:Option Nat) | (intro (K1:Kn _ _ _); (try clear K); rename Kn _ _ _ => K))); conv => whnf
      intro hg'
      exact ⟨E.length - (i + 1), fg [3, 4, 5] _, _, by omega, WkM.fg hg', i + 1, hlt, rfl, .inr ⟨X2, hpp, rfl, K⟩⟩
    · refine kgo ?_; (repeat (first | intro (X:Nat) | intro (z:St) | intro (av:V) | intro (tk:Option Nat) | (intro (K1:Kn _ _ _); (try clear K); rename Kn _ _ _ => K))); conv => whnf
      have hEi : E.take i = evs ms := by rw [List.take_of_length_le hge, hE]
      rw [hEi] at K ⊢
      exact K.retR [.sl 3 X 0 (refF (evs ms)).length none] hty hx (nmF _) (rdF (K.getd .here)) (.one (.refl _))
end Go.Proofs.YthoojnjcdllgdaaGreatDoor
