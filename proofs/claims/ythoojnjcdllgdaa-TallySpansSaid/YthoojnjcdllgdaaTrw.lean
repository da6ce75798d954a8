/-
  Contract: the document's windows: one event counted. No statement stands here.
-/
import Derived.Test.YthoojnjcdllgdaaTrv
set_option linter.all false
namespace Go.Proofs.Ythoojnjcdllgdaa
open Go Rf TallyP
set_option maxRecDepth 100000
set_option maxHeartbeats 4000000

def tw (kk : Int) (l : List Rw2) : Nat := (l.takeWhile fun x => decide (x.1 < kk)).length
theorem tw_le (kk : Int) (l : List Rw2) : tw kk l ≤ l.length := List.Sublist.length_le (List.takeWhile_sublist _)
def incS (n : Nat) (o : Option (Int × Int)) : Int × Int := (wrapF .i64 ((o.getD (0, 0)).1 + 1), wrapF .i64 ((o.getD (0, 0)).2 + n))
theorem ins_hit {n : Nat} {kk : Int} : ∀ {l : List Rw2} {x : Rw2}, l[tw kk l]? = some x → x.1 = kk → insR ltI (incS n) kk l = upR l (tw kk l) x n
  | [], x, h, _ => by simp at h
  | y :: l, x, h, he => by
    obtain ⟨y1, y2⟩ := y
    by_cases hy : y1 < kk
    · have ht : tw kk ((y1, y2) :: l) = tw kk l + 1 := by simp [tw, List.takeWhile_cons, hy]
      rw [ht, List.getElem?_cons_succ] at h
      have ih := ins_hit (n := n) h he
      rw [ht, insR, if_pos (by simp [ltI, hy]), ih]; rfl
    · have ht : tw kk ((y1, y2) :: l) = 0 := by simp [tw, List.takeWhile_cons, hy]
      rw [ht, List.getElem?_cons_zero] at h
      cases h
      simp only at he
      subst he
      rw [ht, insR, if_neg (by simp [ltI]), if_pos rfl]; rfl
theorem ins_new {n : Nat} {kk : Int} : ∀ {l : List Rw2}, (∀ y, l[tw kk l]? = some y → y.1 ≠ kk) → insR ltI (incS n) kk l = upR (putR l (tw kk l) kk) (tw kk l) (kk, 0, 0) n
  | [], _ => rfl
  | y :: l, h => by
    obtain ⟨y1, y2⟩ := y
    by_cases hy : y1 < kk
    · have ht : tw kk ((y1, y2) :: l) = tw kk l + 1 := by simp [tw, List.takeWhile_cons, hy]
      rw [ht] at h
      have ih := ins_new (n := n) (l := l) (fun z hz => h z (by rw [List.getElem?_cons_succ]; exact hz))
      rw [ht, insR, if_pos (by simp [ltI, hy]), ih]; rfl
    · have ht : tw kk ((y1, y2) :: l) = 0 := by simp [tw, List.takeWhile_cons, hy]
      rw [ht] at h
      have hne : ¬ y1 = kk := fun e => h (y1, y2) rfl e
      rw [ht, insR, if_neg (by simpa [ltI] using hy), if_neg hne]; rfl
theorem put_at {kk : Int} {l : List Rw2} {a : Nat} (ha : a ≤ l.length) : (putR l a kk)[a]? = some (kk, 0, 0) := by
  have h : (l.take a).length = a := by rw [List.length_take]; omega
  unfold putR
  rw [List.getElem?_append_right (by omega), h, Nat.sub_self]; rfl
end Go.Proofs.Ythoojnjcdllgdaa
