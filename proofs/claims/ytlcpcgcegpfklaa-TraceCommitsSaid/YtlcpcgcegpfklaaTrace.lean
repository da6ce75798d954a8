/-
  Moves as values, all their cells known; what TraceCommits says of them in plain terms. No statement stands here.
-/
import Derived.Test.YtlcpcgcegpfklaaCode
set_option linter.all false
namespace Go.Proofs.Ytlcpcgcegpfklaa
open Go Rf
set_option maxRecDepth 100000

/-- a record: six numbers; a move: its numbers by their places, its model's bytes, its variables, its records -/
abbrev Rc := Nat → Int
def rV (r : Rc) : V := .ag [.i .i64 (r 0), .i .i64 (r 1), .i .i64 (r 2), .i .i64 (r 3), .i .i64 (r 4), .i .i64 (r 5)]
structure Mt where
  x : Nat → Int
  bs : List UInt8
  vs : List Int
  rl : List Rc
def bsV (l : List UInt8) : V := .pu 1 (bytesOf l) .u
def vsV (l : List Int) : V := .pu 1 (l.map fun n => .i .i64 n) .u
def rlV (l : List Rc) : V := .pu 6 (l.map rV) .u
def Mt.v (m : Mt) : V := .ag [.i .i64 (m.x 0), .i .i64 (m.x 1), .i .i64 (m.x 2), .i .u32 (m.x 3), .i .i64 (m.x 4), bsV m.bs, .i .i64 (m.x 6), .i .i64 (m.x 7), .i .i64 (m.x 8), .i .i64 (m.x 9), .i .i64 (m.x 10), .i .i64 (m.x 11), .i .u32 (m.x 12), .i .i64 (m.x 13), .i .i64 (m.x 14), .i .i64 (m.x 15), .i .i64 (m.x 16), .i .i64 (m.x 17), .i .i64 (m.x 18),
  .i .i64 (m.x 19), .i .u32 (m.x 20), .i .i64 (m.x 21), .i .i64 (m.x 22), vsV m.vs, .i .i64 (m.x 24), .i .i64 (m.x 25), .i .i64 (m.x 26), .i .i64 (m.x 27), .i .i64 (m.x 28), .i .i64 (m.x 29), .i .u32 (m.x 30), .i .i64 (m.x 31), .i .i64 (m.x 32), .i .i64 (m.x 33), .i .i64 (m.x 34), .i .i64 (m.x 35), .i .i64 (m.x 36),
  .i .i64 (m.x 37), .i .i64 (m.x 38), .i .i64 (m.x 39), .i .i64 (m.x 40), .i .i64 (m.x 41), .i .i64 (m.x 42), .i .i64 (m.x 43), rlV m.rl, .i .u32 (m.x 45), .i .i64 (m.x 46)]
/-- its outcome's event -/
def Mt.ev (m : Mt) : Rc := fun j => m.x (38 + j)
def isC (m : Mt) : Bool := eqZ (m.x 0) 2
def isE (m : Mt) : Bool := isC m && eqZ (m.x 37) 1
def isH (m : Mt) : Bool := isC m && eqZ (m.x 37) 2
def recs (ms : List Mt) : List Rc := (ms.filter isC).flatMap (·.rl)
def evs (ms : List Mt) : List Rc := (ms.filter isE).map Mt.ev
def hits (ms : List Mt) : List Mt := ms.filter isH
def hidx : Nat → List Mt → List Nat
  | _, [] => []
  | i, m :: r => if isH m = true then i :: hidx (i + 1) r else hidx (i + 1) r
def msV (ms : List Mt) : V := .pu 47 (ms.map Mt.v) .u

theorem recs_app (a : List Mt) (m : Mt) : recs (a ++ [m]) = recs a ++ (if isC m = true then m.rl else []) := by
  unfold recs
  rw [List.filter_append, List.flatMap_append]
  by_cases h : isC m = true <;> simp [h]
theorem evs_app (a : List Mt) (m : Mt) : evs (a ++ [m]) = evs a ++ (if isE m = true then [m.ev] else []) := by
  unfold evs
  rw [List.filter_append, List.map_append]
  by_cases h : isE m = true <;> simp [h]
theorem hits_app (a : List Mt) (m : Mt) : hits (a ++ [m]) = hits a ++ (if isH m = true then [m] else []) := by
  unfold hits
  rw [List.filter_append]
  by_cases h : isH m = true <;> simp [h]
theorem hidx_app : ∀ (a : List Mt) (m : Mt) (i : Nat), hidx i (a ++ [m]) = hidx i a ++ (if isH m = true then [i + a.length] else [])
  | [], m, i => by by_cases h : isH m = true <;> simp [hidx, h]
  | b :: a, m, i => by
    have ih := hidx_app a m (i + 1)
    simp only [List.cons_append, hidx, ih, List.length_cons]
    have e : i + 1 + a.length = i + (a.length + 1) := by omega
    rw [e]
    by_cases h : isH b = true <;> simp [h]
/-- the i-th hit is the move of that place -/
theorem hits_at : ∀ (ms : List Mt) (o i j : Nat), (hidx o ms)[i]? = some j → o ≤ j ∧ ∃ m, ms[j - o]? = some m ∧ (hits ms)[i]? = some m
  | [], o, i, j, h => by simp [hidx] at h
  | m :: r, o, i, j, h => by
    simp only [hidx] at h
    by_cases hm : isH m = true
    · rw [if_pos hm] at h
      cases i with
      | zero =>
        simp at h
        subst h
        exact ⟨Nat.le_refl _, m, by simp, by simp [hits, hm]⟩
      | succ i =>
        obtain ⟨h1, m', h2, h3⟩ := hits_at r (o + 1) i j (by simpa using h)
        refine ⟨by omega, m', ?_, ?_⟩
        · rw [show j - o = (j - (o + 1)) + 1 by omega]; simpa using h2
        · unfold hits; rw [List.filter_cons_of_pos hm]; exact h3
    · rw [if_neg hm] at h
      obtain ⟨h1, m', h2, h3⟩ := hits_at r (o + 1) i j h
      refine ⟨by omega, m', ?_, ?_⟩
      · rw [show j - o = (j - (o + 1)) + 1 by omega]; simpa using h2
      · unfold hits; rw [List.filter_cons_of_neg hm]; exact h3
theorem hlen : ∀ (ms : List Mt) (o : Nat), (hidx o ms).length = (hits ms).length
  | [], o => rfl
  | m :: r, o => by
    have := hlen r (o + 1)
    by_cases h : isH m = true <;> simp [hidx, hits, h] <;> simpa [hits] using this

theorem wrap_succ {i n : Nat} (h : i < n) (hn : n ≤ maxLen) : wrapF .i64 ((i : Int) + 1) = ((i + 1 : Nat) : Int) := by
  have hm : maxLen ≤ 9223372036854775807 := by decide
  rw [wrapF_eq, wrap_in] <;> simp [lim, IntKind.signed] <;> omega
theorem rV_nm {L : Nat → Prop} (r : Rc) : Nm L (rV r) := .ag _ (fun v hv => by
  simp only [List.mem_cons, List.not_mem_nil, or_false] at hv
  rcases hv with rfl | rfl | rfl | rfl | rfl | rfl <;> exact .i _ _)
theorem rlV_nm {L : Nat → Prop} (l : List Rc) : Nm L (rlV l) := .pu _ _ _ (fun v hv => by
  obtain ⟨x, -, rfl⟩ := List.mem_map.1 hv; exact rV_nm x) (fun k hk => by cases hk)
theorem vsV_nm {L : Nat → Prop} (l : List Int) : Nm L (vsV l) := .pu _ _ _ (fun v hv => by
  obtain ⟨x, -, rfl⟩ := List.mem_map.1 hv; exact .i _ _) (fun k hk => by cases hk)
theorem bsV_nm {L : Nat → Prop} (l : List UInt8) : Nm L (bsV l) := .pu _ _ _ (fun v hv => by
  obtain ⟨x, -, rfl⟩ := List.mem_map.1 hv; exact .i _ _) (fun k hk => by cases hk)
theorem mv_nm {L : Nat → Prop} (m : Mt) : Nm L m.v := .ag _ (fun v hv => by
  simp only [List.mem_cons, List.not_mem_nil, or_false] at hv
  rcases hv with rfl | rfl | rfl | rfl | rfl | rfl | rfl | rfl | rfl | rfl | rfl | rfl | rfl | rfl | rfl | rfl | rfl | rfl | rfl | rfl | rfl | rfl | rfl | rfl | rfl | rfl | rfl | rfl | rfl | rfl | rfl | rfl | rfl | rfl | rfl | rfl | rfl | rfl | rfl | rfl | rfl | rfl | rfl | rfl | rfl | rfl | rfl <;> first | exact .i _ _ | exact bsV_nm _ | exact vsV_nm _ | exact rlV_nm _)
theorem msV_nm {L : Nat → Prop} (ms : List Mt) : Nm L (msV ms) := .pu _ _ _ (fun v hv => by
  obtain ⟨x, -, rfl⟩ := List.mem_map.1 hv; exact mv_nm x) (fun k hk => by cases hk)
theorem nm1 {L : Nat → Prop} {a : V} (ha : Nm L a) : ∀ x ∈ [a], Nm L x := fun x hx => by
  simp only [List.mem_singleton] at hx; subst hx; exact ha
theorem nm2 {L : Nat → Prop} {a b : V} (ha : Nm L a) (hb : Nm L b) : ∀ x ∈ [a, b], Nm L x := fun x hx => by
  simp only [List.mem_cons, List.not_mem_nil, or_false] at hx
  rcases hx with rfl | rfl
  · exact ha
  · exact hb
end Go.Proofs.Ytlcpcgcegpfklaa
