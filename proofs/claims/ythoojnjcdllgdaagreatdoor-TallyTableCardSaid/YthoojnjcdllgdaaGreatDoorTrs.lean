import Derived.Test.YthoojnjcdllgdaaGreatDoorBase
import Derived.Test.YthoojnjcdllgdaaGreatDoorTre
/-
  Functions in the intermediate code, printed by a program off the dump; the kernel holds each against the loaded program. No statement stands here.
-/
set_option linter.all false
namespace Go.Proofs.YthoojnjcdllgdaaGreatDoor
open Go Rf
set_option maxRecDepth 100000
def f17m : Rf.F := { np := 2, nt := 95, body := .seq (.ops [⟨some 4, none, .a (.mov (.c .ns))⟩, ⟨some 5, none, .a (.mov (.c (.i .i64 0)))⟩]) (.seq (.seq (.ops [⟨some 11, none, .a (.mov (.t 1))⟩, ⟨some 12, none, .a (.bin .lss (.t 11) (.c (.i .i64 1)))⟩]) (.cond (.t 12) (.seq (.ops [⟨some 4, none, .a (.mov (.c .ns))⟩, ⟨some 5, none, .a (.mov (.c (.i .i64 2)))⟩]) .ret) .skip)) (.seq (.ops [⟨some 13, none, .a (.mov (.t 0))⟩, ⟨some 14, none, .call 44 [.t 13]⟩, ⟨some 6, none, .a (.mov (.t 14))⟩]) (.seq (.ops [⟨some 7, none, .a (.mov (.c .ns))⟩]) (.seq (.seq (.ops [⟨some 8, none, .a (.mov (.c (.i .i64 0)))⟩]) (.blk 0 (.loop (.seq (.seq (.ops [⟨some 15, none, .a (.mov (.t 8))⟩, ⟨some 16, none, .a (.mov (.t 6))⟩, ⟨some 17, none, .a (.len (.t 16))⟩, ⟨some 18, none, .a (.bin .lss (.t 15) (.t 17))⟩]) (.cond (.t 18) .skip (.exit 0))) (.seq (.blk 1 (.seq (.ops [⟨some 21, none, .a (.mov (.t 6))⟩, ⟨some 22, none, .a (.mov (.t 8))⟩, ⟨some 23, none, .a (.ia 9 (.t 21) (.t 22))⟩, ⟨some 24, none, .a (.fa 1 (.t 23))⟩, ⟨some 25, none, .a (.fa 0 (.t 24))⟩, ⟨some 26, none, .a (.fa 0 (.t 25))⟩, ⟨some 27, none, .a (.load1 (.t 26))⟩, ⟨some 28, none, .a (.mov (.t 1))⟩, ⟨some 29, none, .call 45 [.t 27, .t 28]⟩, ⟨some 9, none, .a (.mov (.t 29))⟩]) (.seq (.ops [⟨some 10, none, .a (.mov (.c (.i .i64 0)))⟩]) (.seq (.blk 2 (.loop (.seq (.seq (.ops [⟨some 30, none, .a (.mov (.t 10))⟩, ⟨some 31, none, .a (.mov (.t 7))⟩, ⟨some 32, none, .a (.len (.t 31))⟩, ⟨some 33, none, .a (.bin .lss (.t 30) (.t 32))⟩, ⟨some 34, none, .a (.mov (.t 33))⟩, ⟨some 35, some (34, true), .a (.mov (.t 7))⟩, ⟨some 36, some (34, true), .a (.mov (.t 10))⟩, ⟨some 37, some (34, true), .a (.ia 3 (.t 35) (.t 36))⟩, ⟨some 38, some (34, true), .a (.fa 0 (.t 37))⟩, ⟨some 39, some (34, true), .a (.load1 (.t 38))⟩, ⟨some 40, some (34, true), .a (.mov (.t 9))⟩, ⟨some 41, some (34, true), .a (.bin .lss (.t 39) (.t 40))⟩, ⟨some 42, none, .a (.pick (.t 34) (.t 41) (.c (.b false)))⟩]) (.cond (.t 42) .skip (.exit 2))) (.blk 3 (.ops [⟨some 43, none, .a (.mov (.t 10))⟩, ⟨some 44, none, .a (.bin .add (.t 43) (.c (.i .i64 1)))⟩, ⟨some 10, none, .a (.mov (.t 44))⟩]))))) (.seq (.seq (.ops [⟨some 45, none, .a (.mov (.t 10))⟩, ⟨some 46, none, .a (.mov (.t 7))⟩, ⟨some 47, none, .a (.len (.t 46))⟩, ⟨some 48, none, .a (.eql false .n (.t 45) (.t 47))⟩, ⟨some 49, none, .a (.mov (.t 48))⟩, ⟨some 50, some (49, false), .a (.mov (.t 7))⟩, ⟨some 51, some (49, false), .a (.mov (.t 10))⟩, ⟨some 52, some (49, false), .a (.ia 3 (.t 50) (.t 51))⟩, ⟨some 53, some (49, false), .a (.fa 0 (.t 52))⟩, ⟨some 54, some (49, false), .a (.load1 (.t 53))⟩, ⟨some 55, some (49, false), .a (.mov (.t 9))⟩, ⟨some 56, some (49, false), .a (.eql true .n (.t 54) (.t 55))⟩, ⟨some 57, none, .a (.pick (.t 49) (.c (.b true)) (.t 56))⟩]) (.cond (.t 57) (.drw [(0, ⟨some 58, none, .a (.mov (.t 7))⟩), (0, ⟨some 59, none, .a (.mov (.t 10))⟩), (0, ⟨some 60, none, .a (.slc 3 (.t 58) none (some (.t 59)) none)⟩), (0, ⟨some 61, none, .a (.app 73 false true 3 24 (.c .ns) (.t 60))⟩), (0, ⟨some 62, none, .a (.mov (.t 9))⟩), (0, ⟨some 63, none, .a (.build [.i .i64 0, .i .i64 0, .i .i64 0] [(0, 1, .t 62)])⟩), (0, ⟨some 64, none, .a (.bsl 73 true true 1 3 [.i .i64 0, .i .i64 0, .i .i64 0] [(0, 3, .t 63)])⟩), (0, ⟨some 65, none, .a (.app 73 false true 3 24 (.t 61) (.t 64))⟩), (0, ⟨some 66, none, .a (.mov (.t 7))⟩), (0, ⟨some 67, none, .a (.mov (.t 10))⟩), (2, ⟨some 68, none, .a (.slc 3 (.t 66) (some (.t 67)) none none)⟩), (0, ⟨some 69, none, .a (.app 73 false true 3 24 (.t 65) (.t 68))⟩), (0, ⟨some 7, none, .a (.mov (.t 69))⟩)]) .skip)) (.seq (.ops [⟨some 70, none, .a (.mov (.t 7))⟩, ⟨some 71, none, .a (.mov (.t 10))⟩, ⟨some 72, none, .a (.ia 3 (.t 70) (.t 71))⟩, ⟨some 73, none, .a (.fa 1 (.t 72))⟩, ⟨some 74, none, .a (.load1 (.t 73))⟩, ⟨some 75, none, .a (.bin .add (.t 74) (.c (.i .i64 1)))⟩, ⟨some 76, none, .a (.ia 3 (.t 70) (.t 71))⟩, ⟨some 77, none, .a (.fa 1 (.t 76))⟩, ⟨none, none, .a (.store 1 (.t 77) (.t 75))⟩]) (.drw [(0, ⟨some 78, none, .a (.mov (.t 7))⟩), (0, ⟨some 79, none, .a (.mov (.t 10))⟩), (0, ⟨some 80, none, .a (.mov (.t 7))⟩), (0, ⟨some 81, none, .a (.mov (.t 10))⟩), (0, ⟨some 82, none, .a (.ia 3 (.t 80) (.t 81))⟩), (0, ⟨some 83, none, .a (.fa 2 (.t 82))⟩), (0, ⟨some 84, none, .a (.load1 (.t 83))⟩), (0, ⟨some 85, none, .a (.mov (.t 6))⟩), (0, ⟨some 86, none, .a (.mov (.t 8))⟩), (0, ⟨some 87, none, .a (.ia 9 (.t 85) (.t 86))⟩), (0, ⟨some 88, none, .a (.fa 7 (.t 87))⟩), (0, ⟨some 89, none, .a (.load1 (.t 88))⟩), (0, ⟨some 90, none, .a (.len (.t 89))⟩), (0, ⟨some 91, none, .a (.bin .add (.t 84) (.t 90))⟩), (0, ⟨some 92, none, .a (.ia 3 (.t 78) (.t 79))⟩), (0, ⟨some 93, none, .a (.fa 2 (.t 92))⟩), (0, ⟨none, none, .a (.store 1 (.t 93) (.t 91))⟩)]))))))) (.ops [⟨some 19, none, .a (.mov (.t 8))⟩, ⟨some 20, none, .a (.bin .add (.t 19) (.c (.i .i64 1)))⟩, ⟨some 8, none, .a (.mov (.t 20))⟩])))))) (.seq (.ops [⟨some 94, none, .a (.mov (.t 7))⟩, ⟨some 4, none, .a (.mov (.t 94))⟩, ⟨some 5, none, .a (.mov (.c (.i .i64 0)))⟩]) .ret))))), res := [.t 4, .t 5] }
theorem hF17m : Rf.cF gt0 Tryz.prog (fun r o => !(r == 13 && o == 3 || r == 13 && o == 7 || r == 13 && o == 11)) 17 = some f17m := by kernel_rfl

end Go.Proofs.YthoojnjcdllgdaaGreatDoor
/-
  Contract: the document's windows. No statement stands here.
-/
set_option linter.all false
namespace Go.Proofs.YthoojnjcdllgdaaGreatDoor
open Go Rf TallyP
set_option maxRecDepth 100000
set_option maxHeartbeats 4000000

def sA : C → C
  | .seq a _ => a
  | c => c
def sB : C → C
  | .seq _ b => b
  | c => c
def sI : C → C
  | .blk _ a => a
  | .loop a => a
  | c => c
noncomputable def c9l : C := sI (sI (sB (sA (sB (sB (sB (sB f17m.body)))))))
noncomputable def c9b : C := sI (sA (sB c9l))
noncomputable def c9i : C := sA (sB (sB c9b))
noncomputable def c9c : C := sA (sB (sB (sB c9b)))
noncomputable def c9s : C := sB (sB (sB (sB c9b)))
abbrev Rw2 := Int × Int × Int
def c3 (x : Rw2) : List V := [.i .i64 x.1, .i .i64 x.2.1, .i .i64 x.2.2]
theorem c3_len (l : List Rw2) : (l.flatMap c3).length = l.length * 3 := by
  induction l with
  | nil => rfl
  | cons x l ih => rw [List.flatMap_cons, List.length_append, ih, List.length_cons, Nat.succ_mul]; simp [c3]; omega
theorem c3_at : ∀ (l : List Rw2) (i j : Nat) (x : Rw2), l[i]? = some x → j < 3 → (l.flatMap c3)[i * 3 + j]? = (c3 x)[j]?
  | [], i, j, q, h, _ => by simp at h
  | a :: l, 0, j, q, h, hj => by
    cases (show a = q by simpa using h)
    rw [List.flatMap_cons, List.getElem?_append_left (by simp [c3]; omega), Nat.zero_mul, Nat.zero_add]
  | a :: l, i + 1, j, q, h, hj => by
    rw [List.flatMap_cons, List.getElem?_append_right (by simp [c3]; omega), show (i + 1) * 3 + j - (c3 a).length = i * 3 + j by simp [c3]; omega]
    exact c3_at l i j q (by simpa using h) hj
def EI (av xv ev : V) (l : List Rw2) (X : Nat) (kk : Int) (i a : Nat) : List V := (av :: ev :: .bad :: .bad :: .bad :: .bad :: xv :: .sl 3 X 0 l.length none :: .i .i64 (i : Nat) :: .i .i64 kk :: .i .i64 (a : Nat) :: List.replicate 84 .bad)
theorem in1 {s z : St} {X : Nat} {kk : Int} {l : List Rw2} {L : List En} {Q : XM → List V → St → Prop} (hl : l.length ≤ 1000) (K : Kn s z (.ob true X (.c (l.flatMap c3) 0 (some 73)) :: L)) (av xv ev : V) (i : Nat)
    (hQ : ∀ e z', fg [0, 1, 6, 7, 8, 9, 10] e = (av :: ev :: .bad :: .bad :: .bad :: .bad :: xv :: .sl 3 X 0 l.length none :: .i .i64 (i : Nat) :: .i .i64 kk :: .i .i64 ((l.takeWhile fun x => decide (x.1 < kk)).length : Nat) :: List.replicate 84 .bad) → Kn s z' (.ob true X (.c (l.flatMap c3) 0 (some 73)) :: L) → Q .nrm e z') :
    HM gt0 Tryz.prog s c9i (av :: ev :: .bad :: .bad :: .bad :: .bad :: xv :: .sl 3 X 0 l.length none :: .i .i64 (i : Nat) :: .i .i64 kk :: .i .i64 0 :: List.replicate 84 .bad) z Q := by
  refine kgo ?_; (repeat (first | intro (X:Nat) | intro (z:St) | intro (av:V) | intro (tk:Option Nat) | (intro (K1:Kn _ _ _); (try clear K); rename Kn _ _ _ => K))); conv => whnf
  refine HM.loop gnm0 fun hg => ⟨fun n e z' => ∃ a : Nat, a ≤ l.length ∧ n = l.length - a ∧ e = EI av xv ev l X kk i a ∧ (∀ x ∈ l.take a, x.1 < kk) ∧ Kn s z' (.ob true X (.c (l.flatMap c3) 0 (some 73)) :: L),
    ⟨l.length, fg [0, 1, 6, 7, 8, 9, 10] _, _, WkM.fg hg, 0, Nat.zero_le _, rfl, rfl, fun x hx => by simp at hx, K⟩, ?_⟩
  clear K
  rintro n e z1 ⟨a, ha, rfl, rfl, hlt, K⟩
  conv => whnf
  refine kgo ?_; (repeat (first | intro (X:Nat) | intro (z:St) | intro (av:V) | intro (tk:Option Nat) | (intro (K1:Kn _ _ _); (try clear K); rename Kn _ _ _ => K))); conv => whnf
  have htw : ∀ b, b ≤ l.length → (∀ x ∈ l.take b, x.1 < kk) → (∀ y, l[b]? = some y → ¬ y.1 < kk) → (l.takeWhile fun x => decide (x.1 < kk)).length = b := by
    intro b hb h1 h2
    rw [← List.take_append_drop b l, List.takeWhile_append_of_pos (fun x hx => by simpa using h1 x hx), List.length_append, List.length_take]
    have : (l.drop b).takeWhile (fun x => decide (x.1 < kk)) = [] := by
      cases hd : l.drop b with
      | nil => rfl
      | cons y r =>
        have hy : l[b]? = some y := by rw [← List.head?_drop, hd]; rfl
        rw [List.takeWhile_cons, if_neg (by simpa using h2 y hy)]
    rw [this]
    simp; omega
  cases hc : ltZ ((a : Nat) : Int) ((l.length : Nat) : Int) <;> conv => whnf
  · refine kgo ?_; (repeat (first | intro (X:Nat) | intro (z:St) | intro (av:V) | intro (tk:Option Nat) | (intro (K1:Kn _ _ _); (try clear K); rename Kn _ _ _ => K))); conv => whnf
    have hal : a = l.length := by rw [ltZ_eq] at hc; simp at hc; omega
    refine hQ _ _ ?_ K
    rw [htw a ha hlt (fun y hy => by rw [List.getElem?_eq_none (by omega)] at hy; cases hy)]
    rfl
  · have hal : a < l.length := by rw [ltZ_eq] at hc; simp at hc; omega
    have hx : l[a]? = some l[a] := List.getElem?_eq_getElem hal
    generalize l[a] = x at hx
    have hcell : (l.flatMap c3)[0 + ((a : Nat) : Int).toNat * 3 + 0]? = some (.i .i64 x.1) := by
      have := c3_at l a 0 x hx (by decide)
      simpa [c3] using this
    refine kgo ?_; (repeat (first | intro (X:Nat) | intro (z:St) | intro (av:V) | intro (tk:Option Nat) | (intro (K1:Kn _ _ _); (try clear K); rename Kn _ _ _ => K))); conv => whnf
    refine ⟨rfl, Int.natCast_nonneg _, by omega, ?_⟩
    conv => whnf
    refine kgo ?_; (repeat (first | intro (X:Nat) | intro (z:St) | intro (av:V) | intro (tk:Option Nat) | (intro (K1:Kn _ _ _); (try clear K); rename Kn _ _ _ => K))); conv => whnf
    cases hk : ltZ x.1 kk <;> conv => whnf
    · refine kgo ?_; (repeat (first | intro (X:Nat) | intro (z:St) | intro (av:V) | intro (tk:Option Nat) | (intro (K1:Kn _ _ _); (try clear K); rename Kn _ _ _ => K))); conv => whnf
      have hxk : ¬ x.1 < kk := by rw [ltZ_eq] at hk; simpa using hk
      refine hQ _ _ ?_ K
      rw [htw a ha hlt (fun y hy => by rw [hx] at hy; cases hy; exact hxk)]
      rfl
    · refine kgo ?_; (repeat (first | intro (X:Nat) | intro (z:St) | intro (av:V) | intro (tk:Option Nat) | (intro (K1:Kn _ _ _); (try clear K); rename Kn _ _ _ => K))); conv => whnf
      have hxk : x.1 < kk := by rw [ltZ_eq] at hk; simpa using hk
      intro hg'
      exact ⟨l.length - (a + 1), fg [0, 1, 6, 7, 8, 9, 10] _, _, by omega, WkM.fg hg', a + 1, hal, rfl, rfl, fun y hy => by
        rw [List.take_add_one, hx] at hy
        rcases List.mem_append.1 hy with hy | hy
        · exact hlt y hy
        · simp at hy; subst hy; exact hxk, K⟩
end Go.Proofs.YthoojnjcdllgdaaGreatDoor
