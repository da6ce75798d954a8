/-
  What is read of a model's text: few, and numbers of 64 bits. No statement stands here.
-/
import Derived.Test.YtlhopiehnaabgaaGreatDoorMrp
set_option linter.all false
namespace Go.Proofs.YtlhopiehnaabgaaGreatDoor
open Go Rf
set_option maxRecDepth 100000
set_option maxHeartbeats 4000000

theorem foA_few : ∀ (ls : List (List UInt8)) (i : Nat) (p : Int × List Kd), Few i p → Few (i + ls.length) (foA ls i p)
  | [], _, _, h => h
  | l :: r, i, p, h => by
    have := foA_few r (i + 1) _ (few_st (l := l) h)
    rw [foA, List.length_cons, show i + (r.length + 1) = i + 1 + r.length by omega]
    exact this
theorem progA_ok (g : List UInt8) : i64 (progA g).1 ∧ (progA g).2.length ≤ 8 ∧ ∀ k ∈ (progA g).2, k.length ≤ 128 ∧ ∀ x ∈ k, i64 x.2 := by
  have hf := foA_few (cutL 10 g) 0 (0, []) ⟨⟨by decide, by decide⟩, Nat.le_refl _, fun k hk => by simp at hk⟩
  unfold progA
  simp only
  split
  · rename_i h
    obtain ⟨h1, h2⟩ := may_bnd h.1
    exact ⟨hf.1, h1, fun k hk => ⟨h2 k hk, (hf.2.2 k hk).2⟩⟩
  · exact ⟨⟨by decide, by decide⟩, by simp, fun k hk => by simp at hk⟩
theorem zip_mem {α β γ : Type} {f : α → β → γ} : ∀ {ua : List α} {ub : List β} {x : γ}, x ∈ List.zipWith f ua ub → ∃ a ∈ ua, ∃ b ∈ ub, x = f a b
  | a :: ua, b :: ub, x, h => by
    rw [List.zipWith_cons_cons] at h
    rcases List.mem_cons.1 h with rfl | h
    · exact ⟨a, List.mem_cons_self .., b, List.mem_cons_self .., rfl⟩
    · obtain ⟨a', ha, b', hb, e⟩ := zip_mem h
      exact ⟨a', List.mem_cons_of_mem _ ha, b', List.mem_cons_of_mem _ hb, e⟩
  | [], _, x, h => by simp at h
  | _ :: _, [], x, h => by simp at h
theorem psM_ok {n N : Nat} {p : RM} (h : OkM n N p) (hn : n ≤ 800000) (hN : N ≤ 800000) : ShM (psM p) p.2.2 ∧ I64M (psM p) p.2.2 := by
  have hl : (psM p).length ≤ p.1.length := by unfold psM; rw [List.length_zipWith]; omega
  have ha := h.a
  have hm : ∀ x ∈ psM p, (i64 x.1.1 ∧ x.1.2.length ≤ 8 ∧ ∀ k ∈ x.1.2, k.length ≤ 128 ∧ ∀ y ∈ k, i64 y.2) ∧ x.2.1.length ≤ N ∧ (∀ y ∈ x.2.1, i64 y) ∧ i64 x.2.2 := fun x hx => by
    obtain ⟨a, ha, b, -, rfl⟩ := zip_mem hx
    exact ⟨progA_ok b, h.v a ha⟩
  refine ⟨⟨by omega, by omega, fun q x hq => ?_⟩, ⟨fun x hx => ?_, h.e⟩⟩
  · obtain ⟨⟨-, h1, h2⟩, h3, -⟩ := hm x (List.mem_of_getElem? hq)
    exact ⟨by omega, fun k hk => by have := (h2 k hk).1; omega, by omega⟩
  · obtain ⟨⟨h0, h1, h2⟩, h3, h4, h5⟩ := hm x hx
    exact ⟨h0, fun k hk => (h2 k hk).2, h4, h5⟩
theorem foM_ok {N : Nat} : ∀ (ls : List (List UInt8)) (i : Nat) (p : RM), OkM i N p → p.2.1.flatten.length + ls.flatten.length ≤ N → OkM (i + ls.length) N (foM ls p)
  | [], _, _, h, _ => h
  | l :: r, i, p, h, hf => by
    rw [List.flatten_cons, List.length_append] at hf
    have h1 := okM_st (l := l) h (by omega)
    have h2 := stM_fl p l
    have := foM_ok r (i + 1) _ h1 (by omega)
    rw [List.length_cons, show i + (r.length + 1) = i + 1 + r.length by omega]
    exact this
theorem read_okM (S : List UInt8) (hS : S.length ≤ 700000) {r : RM} (hr : foM (cutA 10 S) ([], [], []) = r) : OkM 700001 700000 r := by
  have h := foM_ok (N := 700000) (cutA 10 S) 0 ([], [], []) ⟨rfl, Nat.le_refl _, fun x hx => by simp at hx, fun x hx => by simp at hx, by simp⟩ (by rw [cutA_flat]; simpa using hS)
  rw [hr] at h
  have hl := cutA_len 10 S
  exact ⟨h.l, by have := h.a; omega, h.v, h.e, h.g⟩
theorem read_ok (S : List UInt8) (hS : S.length ≤ 700000) {r : RM} (hr : foM (cutA 10 S) ([], [], []) = r) : ShM (psM r) r.2.2 ∧ I64M (psM r) r.2.2 :=
  psM_ok (read_okM S hS hr) (by decide) (by decide)
end Go.Proofs.YtlhopiehnaabgaaGreatDoor
