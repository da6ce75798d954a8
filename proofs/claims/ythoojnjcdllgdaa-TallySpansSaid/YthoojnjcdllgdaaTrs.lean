/-
  Contract: the document's windows. No statement stands here.
-/
import Derived.Test.YthoojnjcdllgdaaTre
import Derived.Test.YthoojnjcdllgdaaCode9
set_option linter.all false
namespace Go.Proofs.Ythoojnjcdllgdaa
open Go Rf TallyP
set_option maxRecDepth 100000
set_option maxHeartbeats 4000000

def sA : C → C
  | .seq a _ => a
  | c => c
def sB : C → C
  | .seq _ b => b
  | c => c
def sI : C → C
  | .blk _ a => a
  | .loop a => a
  | c => c
noncomputable def c9l : C := sI (sI (sB (sA (sB (sB (sB (sB f9m.body)))))))
noncomputable def c9b : C := sI (sA (sB c9l))
noncomputable def c9i : C := sA (sB (sB c9b))
noncomputable def c9c : C := sA (sB (sB (sB c9b)))
noncomputable def c9s : C := sB (sB (sB (sB c9b)))
abbrev Rw2 := Int × Int × Int
def c3 (x : Rw2) : List V := [.i .i64 x.1, .i .i64 x.2.1, .i .i64 x.2.2]
theorem c3_len (l : List Rw2) : (l.flatMap c3).length = l.length * 3 := by
  induction l with
  | nil => rfl
  | cons x l ih => rw [List.flatMap_cons, List.length_append, ih, List.length_cons, Nat.succ_mul]; simp [c3]; omega
theorem c3_at : ∀ (l : List Rw2) (i j : Nat) (x : Rw2), l[i]? = some x → j < 3 → (l.flatMap c3)[i * 3 + j]? = (c3 x)[j]?
  | [], i, j, q, h, _ => by simp at h
  | a :: l, 0, j, q, h, hj => by
    cases (show a = q by simpa using h)
    rw [List.flatMap_cons, List.getElem?_append_left (by simp [c3]; omega), Nat.zero_mul, Nat.zero_add]
  | a :: l, i + 1, j, q, h, hj => by
    rw [List.flatMap_cons, List.getElem?_append_right (by simp [c3]; omega), show (i + 1) * 3 + j - (c3 a).length = i * 3 + j by simp [c3]; omega]
    exact c3_at l i j q (by simpa using h) hj
def EI (av xv ev : V) (l : List Rw2) (X : Nat) (kk : Int) (i a : Nat) : List V := (av :: ev :: .bad :: .bad :: .bad :: .bad :: xv :: .sl 3 X 0 l.length none :: .i .i64 (i : Nat) :: .i .i64 kk :: .i .i64 (a : Nat) :: List.replicate 84 .bad)
theorem in1 {s z : St} {X : Nat} {kk : Int} {l : List Rw2} {L : List En} {Q : XM → List V → St → Prop} (hl : l.length ≤ 1000) (K : Kn s z (.ob true X (.c (l.flatMap c3) 0 (some 33)) :: L)) (av xv ev : V) (i : Nat)
    (hQ : ∀ e z', fg [0, 1, 6, 7, 8, 9, 10] e = (av :: ev :: .bad :: .bad :: .bad :: .bad :: xv :: .sl 3 X 0 l.length none :: .i .i64 (i : Nat) :: .i .i64 kk :: .i .i64 ((l.takeWhile fun x => decide (x.1 < kk)).length : Nat) :: List.replicate 84 .bad) → Kn s z' (.ob true X (.c (l.flatMap c3) 0 (some 33)) :: L) → Q .nrm e z') :
    HM gt0 Try.prog s c9i (av :: ev :: .bad :: .bad :: .bad :: .bad :: xv :: .sl 3 X 0 l.length none :: .i .i64 (i : Nat) :: .i .i64 kk :: .i .i64 0 :: List.replicate 84 .bad) z Q := by
  refine kgo ?_; (repeat (first | intro (X:Nat) | intro (z:St) | intro (av:V) | intro (tk:Option Nat) | (intro (K1:Kn _ _ _); (try clear K); rename Kn _ _ _ => K))); conv => whnf
  refine HM.loop gnm0 fun hg => ⟨fun n e z' => ∃ a : Nat, a ≤ l.length ∧ n = l.length - a ∧ e = EI av xv ev l X kk i a ∧ (∀ x ∈ l.take a, x.1 < kk) ∧ Kn s z' (.ob true X (.c (l.flatMap c3) 0 (some 33)) :: L),
    ⟨l.length, fg [0, 1, 6, 7, 8, 9, 10] _, _, WkM.fg hg, 0, Nat.zero_le _, rfl, rfl, fun x hx => by simp at hx, K⟩, ?_⟩
  clear K
  rintro n e z1 ⟨a, ha, rfl, rfl, hlt, K⟩
  conv => whnf
  refine kgo ?_; (repeat (first | intro (X:Nat) | intro (z:St) | intro (av:V) | intro (tk:Option Nat) | (intro (K1:Kn _ _ _); (try clear K); rename Kn _ _ _ => K))); conv => whnf
  have htw : ∀ b, b ≤ l.length → (∀ x ∈ l.take b, x.1 < kk) → (∀ y, l[b]? = some y → ¬ y.1 < kk) → (l.takeWhile fun x => decide (x.1 < kk)).length = b := by
    intro b hb h1 h2
    rw [← List.take_append_drop b l, List.takeWhile_append_of_pos (fun x hx => by simpa using h1 x hx), List.length_append, List.length_take]
    have : (l.drop b).takeWhile (fun x => decide (x.1 < kk)) = [] := by
      cases hd : l.drop b with
      | nil => rfl
      | cons y r =>
        have hy : l[b]? = some y := by rw [← List.head?_drop, hd]; rfl
        rw [List.takeWhile_cons, if_neg (by simpa using h2 y hy)]
    rw [this]
    simp; omega
  cases hc : ltZ ((a : Nat) : Int) ((l.length : Nat) : Int) <;> conv => whnf
  · refine kgo ?_; (repeat (first | intro (X:Nat) | intro (z:St) | intro (av:V) | intro (tk:Option Nat) | (intro (K1:Kn _ _ _); (try clear K); rename Kn _ _ _ => K))); conv => whnf
    have hal : a = l.length := by rw [ltZ_eq] at hc; simp at hc; omega
    refine hQ _ _ ?_ K
    rw [htw a ha hlt (fun y hy => by rw [List.getElem?_eq_none (by omega)] at hy; cases hy)]
    rfl
  · have hal : a < l.length := by rw [ltZ_eq] at hc; simp at hc; omega
    have hx : l[a]? = some l[a] := List.getElem?_eq_getElem hal
    generalize l[a] = x at hx
    have hcell : (l.flatMap c3)[0 + ((a : Nat) : Int).toNat * 3 + 0]? = some (.i .i64 x.1) := by
      have := c3_at l a 0 x hx (by decide)
      simpa [c3] using this
    refine kgo ?_; (repeat (first | intro (X:Nat) | intro (z:St) | intro (av:V) | intro (tk:Option Nat) | (intro (K1:Kn _ _ _); (try clear K); rename Kn _ _ _ => K))); conv => whnf
    refine ⟨rfl, Int.natCast_nonneg _, by omega, ?_⟩
    conv => whnf
    refine kgo ?_; (repeat (first | intro (X:Nat) | intro (z:St) | intro (av:V) | intro (tk:Option Nat) | (intro (K1:Kn _ _ _); (try clear K); rename Kn _ _ _ => K))); conv => whnf
    cases hk : ltZ x.1 kk <;> conv => whnf
    · refine kgo ?_; (repeat (first | intro (X:Nat) | intro (z:St) | intro (av:V) | intro (tk:Option Nat) | (intro (K1:Kn _ _ _); (try clear K); rename Kn _ _ _ => K))); conv => whnf
      have hxk : ¬ x.1 < kk := by rw [ltZ_eq] at hk; simpa using hk
      refine hQ _ _ ?_ K
      rw [htw a ha hlt (fun y hy => by rw [hx] at hy; cases hy; exact hxk)]
      rfl
    · refine kgo ?_; (repeat (first | intro (X:Nat) | intro (z:St) | intro (av:V) | intro (tk:Option Nat) | (intro (K1:Kn _ _ _); (try clear K); rename Kn _ _ _ => K))); conv => whnf
      have hxk : x.1 < kk := by rw [ltZ_eq] at hk; simpa using hk
      intro hg'
      exact ⟨l.length - (a + 1), fg [0, 1, 6, 7, 8, 9, 10] _, _, by omega, WkM.fg hg', a + 1, hal, rfl, rfl, fun y hy => by
        rw [List.take_add_one, hx] at hy
        rcases List.mem_append.1 hy with hy | hy
        · exact hlt y hy
        · simp at hy; subst hy; exact hxk, K⟩
end Go.Proofs.Ythoojnjcdllgdaa
