/-
  What a copied model, and state, read as; how they lie. No statement stands here.
-/
import Derived.Test.YtklgkdehnaecnaaDoorCpm
import Derived.Test.YtklgkdehnaecnaaDoorRfTd
set_option linter.all false
namespace Go.Proofs.YtklgkdehnaecnaaDoor
open Go Rf
set_option maxRecDepth 100000
set_option maxHeartbeats 1000000

def QI (_ : Nat) (x : V) : Prop := intc x
/-- kinds' cells; processes' cells -/
def QK (s : St) (_ : Nat) (x : V) : Prop := ∃ m, m ≤ 200 ∧ Lay s 2 x m QI
def QP (s : St) (j : Nat) (x : V) : Prop := (j = 0 ∧ intc x) ∨ (j = 1 ∧ ∃ m, m ≤ 200 ∧ Lay s 1 x m (QK s)) ∨ (j = 2 ∧ ∃ m, m ≤ 200 ∧ Lay s 1 x m QI) ∨ (j = 3 ∧ intc x)

theorem one_cell {α : Type} {f : α → V} (hf : ∀ x, (f x).cells = [f x]) (l : List α) : ∀ y ∈ l.map f, y.cells.length = 1 := fun y hy => by
  obtain ⟨x, -, rfl⟩ := List.mem_map.1 hy; rw [hf]; rfl
section
variable {s : St} {d : Nat}
theorem ins_sz (k : Kd) : ∀ y ∈ k.map insV, y.cells.length = 2 := fun y hy => by
  obtain ⟨x, -, rfl⟩ := List.mem_map.1 hy; rfl
theorem ins_int (k : Kd) : ∀ y ∈ k.map insV, ∀ (j : Nat) (c : V), y.cells[j]? = some c → intc c := fun y hy j c hc => by
  obtain ⟨x, -, rfl⟩ := List.mem_map.1 hy
  match j, hc with
  | 0, hc => cases hc; exact ⟨_, rfl⟩
  | 1, hc => cases hc; exact ⟨_, rfl⟩
theorem clk_rd {k : Kd} (h : Hold s d (clkO k)) : Rd s (clkT d k) (kV k) := by
  cases k with
  | nil => exact .refl _
  | cons x r => exact rd_flat (h.cons.1) (by simp) (ins_sz _)
theorem clk_lay {k : Kd} (h : Hold s d (clkO k)) : Lay s 2 (clkT d k) k.length QI := by
  cases k with
  | nil => exact .inl ⟨rfl, _, rfl⟩
  | cons x r => exact lay_flat (h.cons.1) (by simp) (ins_sz _) (ins_int _)
theorem ev_sz (k : List Ev) : ∀ y ∈ k.map evV, y.cells.length = 6 := fun y hy => by
  obtain ⟨x, -, rfl⟩ := List.mem_map.1 hy; rfl
theorem ev_int (k : List Ev) : ∀ y ∈ k.map evV, ∀ (j : Nat) (c : V), y.cells[j]? = some c → intc c := fun y hy j c hc => by
  obtain ⟨x, -, rfl⟩ := List.mem_map.1 hy
  match j, hc with
  | 0, hc => cases hc; exact ⟨_, rfl⟩
  | 1, hc => cases hc; exact ⟨_, rfl⟩
  | 2, hc => cases hc; exact ⟨_, rfl⟩
  | 3, hc => cases hc; exact ⟨_, rfl⟩
  | 4, hc => cases hc; exact ⟨_, rfl⟩
  | 5, hc => cases hc; exact ⟨_, rfl⟩
theorem clf_rd {k : List Ev} (h : Hold s d (clfO k)) : Rd s (clfT d k) (fsV k) := by
  cases k with
  | nil => exact .refl _
  | cons x r => exact rd_flat (h.cons.1) (by simp) (ev_sz _)
theorem clf_lay {k : List Ev} (h : Hold s d (clfO k)) : Lay s 6 (clfT d k) k.length QI := by
  cases k with
  | nil => exact .inl ⟨rfl, _, rfl⟩
  | cons x r => exact lay_flat (h.cons.1) (by simp) (ev_sz _) (ev_int _)
theorem iv_sz (k : List Int) : ∀ y ∈ k.map iV, y.cells.length = 1 := one_cell (fun _ => rfl) k
theorem iv_int (k : List Int) : ∀ y ∈ k.map iV, ∀ (j : Nat) (c : V), y.cells[j]? = some c → intc c := fun y hy j c hc => by
  obtain ⟨x, -, rfl⟩ := List.mem_map.1 hy
  match j, hc with
  | 0, hc => cases hc; exact ⟨_, rfl⟩
theorem clv_rd {k : List Int} (h : Hold s d (clvO k)) : Rd s (clvT d k) (vsV k) := by
  cases k with
  | nil => exact .refl _
  | cons x r => exact rd_flat (h.cons.1) (by simp) (iv_sz _)
theorem clv_lay {k : List Int} (h : Hold s d (clvO k)) : Lay s 1 (clvT d k) k.length QI := by
  cases k with
  | nil => exact .inl ⟨rfl, _, rfl⟩
  | cons x r => exact lay_flat (h.cons.1) (by simp) (iv_sz _) (iv_int _)

/-- kinds -/
theorem kcs_at : ∀ (ks : List Kd) {d : Nat}, Hold s d (kos ks) → ∀ (j : Nat) k, ks[j]? = some k → ∃ e, Hold s e (clkO k) ∧ (kcs d ks)[j]? = some (clkT e k)
  | [], d, _, j, k, h => by simp at h
  | k :: r, d, h, 0, x, hx => by cases hx; exact ⟨d, h.app.1, rfl⟩
  | k :: r, d, h, j + 1, x, hx => by
    obtain ⟨e, h1, h2⟩ := kcs_at r h.app.2 j x (by simpa using hx)
    exact ⟨e, h1, by simpa [kcs] using h2⟩
theorem cc_rd {v : Int} {ks : List Kd} (h : Hold s d (ccO d v ks)) : Rd s (clksT (d + 2) ks) (ksV ks) := by
  cases ks with
  | nil => exact .refl _
  | cons k r =>
    have h2 := h.cons.2.cons.2
    have h3 := h2.cons
    have := rd_row (sz := 1) (xs := (k :: r).map kV) h3.1 (by rw [kcs_len]; simp) (one_cell (fun _ => rfl) _) (fun i j x hx hj => by
      have hj : j = 0 := by omega
      subst hj
      obtain ⟨y, hy, rfl⟩ : ∃ y, (k :: r)[i]? = some y ∧ x = kV y := by
        rw [List.getElem?_map] at hx
        cases hh : (k :: r)[i]? with
        | none => rw [hh] at hx; cases hx
        | some y => rw [hh] at hx; exact ⟨y, rfl, (Option.some.inj hx).symm⟩
      obtain ⟨e, h4, h5⟩ := kcs_at (k :: r) h3.2 i y hy
      exact ⟨_, _, by rw [Nat.mul_one, Nat.add_zero]; exact h5, rfl, clk_rd h4⟩)
    rwa [List.length_map] at this
theorem cc_lay {v : Int} {ks : List Kd} (h : Hold s d (ccO d v ks)) (hk : ∀ k ∈ ks, k.length ≤ 200) : Lay s 1 (clksT (d + 2) ks) ks.length (QK s) := by
  cases ks with
  | nil => exact .inl ⟨rfl, _, rfl⟩
  | cons k r =>
    have h3 := h.cons.2.cons.2.cons
    refine .inr ⟨_, _, _, rfl, h3.1, by rw [kcs_len]; simp, fun i j hi hj => ?_⟩
    have hj : j = 0 := by omega
    subst hj
    obtain ⟨e, h4, h5⟩ := kcs_at (k :: r) h3.2 i _ (List.getElem?_eq_getElem hi)
    exact ⟨_, by rw [Nat.mul_one, Nat.add_zero]; exact h5, _, hk _ (List.getElem_mem hi), clk_lay h4⟩

/-- processes -/
theorem mcs_at : ∀ (ps : List Pr) {d : Nat}, Hold s d (mos d ps) → ∀ (i : Nat) p, ps[i]? = some p → ∃ e, Hold s e (pO e p) ∧ ∀ j, j < 4 → (mcs d ps)[i * 4 + j]? = (pC e p)[j]?
  | [], d, _, j, k, h => by simp at h
  | p :: r, d, h, 0, x, hx => by
    cases hx
    exact ⟨d, h.app.1, fun j hj => by rw [Nat.zero_mul, Nat.zero_add]; exact List.getElem?_append_left (by simp [pC]; omega)⟩
  | p :: r, d, h, i + 1, x, hx => by
    have h2 := h.app.2
    rw [pO_len] at h2
    obtain ⟨e, h1, h2⟩ := mcs_at r h2 i x (by simpa using hx)
    refine ⟨e, h1, fun j hj => ?_⟩
    rw [← h2 j hj]
    show (pC d p ++ mcs (d + pL p) r)[_]? = _
    rw [List.getElem?_append_right (by simp [pC]; omega)]
    congr 1
    simp [pC]; omega
theorem p_rd {p : Pr} (h : Hold s d (pO d p)) : ∀ j, j < 4 → ∃ c y, (pC d p)[j]? = some c ∧ (prV p).cells[j]? = some y ∧ Rd s c y := fun j hj => by
  have h2 := h.cons.2.app
  have h3 := h2.2
  rw [ccO_len] at h3
  match j, hj with
  | 0, _ => exact ⟨_, _, rfl, rfl, .refl _⟩
  | 1, _ => exact ⟨_, _, rfl, rfl, cc_rd h2.1⟩
  | 2, _ => exact ⟨_, _, rfl, rfl, clv_rd h3⟩
  | 3, _ => exact ⟨_, _, rfl, rfl, .refl _⟩
theorem p_lay {p : Pr} (h : Hold s d (pO d p)) (hk : ∀ k ∈ p.1.2, k.length ≤ 200) (hl : p.1.2.length ≤ 12) (hv : p.2.1.length ≤ 20) : ∀ j, j < 4 → ∃ c, (pC d p)[j]? = some c ∧ QP s j c := fun j hj => by
  have h2 := h.cons.2.app
  have h3 := h2.2
  rw [ccO_len] at h3
  match j, hj with
  | 0, _ => exact ⟨_, rfl, .inl ⟨rfl, _, rfl⟩⟩
  | 1, _ => exact ⟨_, rfl, .inr (.inl ⟨rfl, _, by omega, cc_lay h2.1 hk⟩)⟩
  | 2, _ => exact ⟨_, rfl, .inr (.inr (.inl ⟨rfl, _, by omega, clv_lay h3⟩))⟩
  | 3, _ => exact ⟨_, rfl, .inr (.inr (.inr ⟨rfl, _, rfl⟩))⟩

/-- models -/
theorem mc_at {p : Pr} {r : List Pr} {fs : List Ev} (hI : Is s (mcO (p :: r) fs)) : s.get 2 = some (.c (mcs (mB fs) (p :: r)) 0 (some 39)) ∧ Hold s 3 (clfO fs) ∧ Hold s (mB fs) (mos (mB fs) (p :: r)) := by
  have h := hI.hold0.cons.2.cons.2.cons
  have h2 := h.2.app
  refine ⟨h.1, h2.1, ?_⟩
  have h3 := h2.2.cons.2
  have e : 0 + 1 + 1 + 1 + (clfO fs).length + 1 = mB fs := by simp [mB]; omega
  rwa [e] at h3
theorem mc_rd {ps : List Pr} {fs : List Ev} (hI : Is s (mcO ps fs)) : Rd s (mcT ps fs) (mV ps fs) := by
  cases ps with
  | nil =>
    have h := hI.hold0.cons.2.cons.2.app.1
    refine .ag _ _ rfl fun j hj => ?_
    match j, hj with
    | 0, _ => exact .refl _
    | 1, _ => exact clf_rd h
  | cons p r =>
    obtain ⟨h1, h2, h3⟩ := mc_at hI
    refine .ag _ _ rfl fun j hj => ?_
    match j, hj with
    | 0, _ =>
      have := rd_row (sz := 4) (xs := (p :: r).map prV) h1 (by rw [mcs_len, List.length_map]) (fun y hy => by
        obtain ⟨x, -, rfl⟩ := List.mem_map.1 hy; rfl) (fun i j x hx hj => by
        obtain ⟨y, hy, rfl⟩ : ∃ y, (p :: r)[i]? = some y ∧ x = prV y := by
          rw [List.getElem?_map] at hx
          cases hh : (p :: r)[i]? with
          | none => rw [hh] at hx; cases hx
          | some y => rw [hh] at hx; exact ⟨y, rfl, (Option.some.inj hx).symm⟩
        obtain ⟨e, h4, h5⟩ := mcs_at (p :: r) h3 i y hy
        obtain ⟨c, z, k1, k2, k3⟩ := p_rd h4 j hj
        exact ⟨c, z, by rw [h5 j hj]; exact k1, k2, k3⟩)
      rwa [List.length_map] at this
    | 1, _ => exact clf_rd h2
theorem mc_lay {ps : List Pr} {fs : List Ev} (hI : Is s (mcO ps fs)) (hok : okM ps fs) : ∃ pv fv, mcT ps fs = .ag [pv, fv] ∧ Lay s 4 pv ps.length (QP s) ∧ Lay s 6 fv fs.length QI := by
  obtain ⟨hl, hf, hk⟩ := hok
  cases ps with
  | nil =>
    have h := hI.hold0.cons.2.cons.2.app.1
    exact ⟨_, _, rfl, .inl ⟨rfl, _, rfl⟩, clf_lay h⟩
  | cons p r =>
    obtain ⟨h1, h2, h3⟩ := mc_at hI
    refine ⟨_, _, rfl, .inr ⟨_, _, _, rfl, h1, mcs_len _ _, fun i j hi hj => ?_⟩, clf_lay h2⟩
    obtain ⟨e, h4, h5⟩ := mcs_at (p :: r) h3 i _ (List.getElem?_eq_getElem hi)
    have hki := hk _ (List.getElem_mem hi)
    obtain ⟨c, k1, k2⟩ := p_lay h4 hki.2.1 hki.1 hki.2.2 j hj
    exact ⟨c, by rw [h5 j hj]; exact k1, k2⟩
end

theorem mc_den (ps : List Pr) (fs : List Ev) (hok : okM ps fs) : Den gt0 Tryd.prog 12 [mV ps fs] s0 (mcT ps fs) (Rf.s0.adds (mcO ps fs)) := by
  cases ps with
  | nil => exact mc_nil fs hok.2.1
  | cons p r => exact mc_cons p r fs hok
theorem mc_is (ps : List Pr) (fs : List Ev) : Is (Rf.s0.adds (mcO ps fs)) (mcO ps fs) := is_lit rfl
/-- a copy that no one writes -/
theorem mc_pden (ps : List Pr) (fs : List Ev) (hok : okM ps fs) : PDen gt0 Tryd.prog 12 [mV ps fs] (mV ps fs) :=
  PDen.freeze gnm0 (nm1 (mV_nm _ _)) (mV_nm _ _) (mc_den ps fs hok) (mc_rd (mc_is ps fs))

/-- a state's copy, in any state -/
theorem cs_all (x : List Int) (a b : Int) (hl : x.length ≤ 200) {s : St} {os : List O} (hI : Is s os) :
    ∃ xv s', Den gt0 Tryd.prog 13 [stV x a b] s (.ag [xv, .i .i64 a, .i .i64 b]) s' ∧ (∃ os', Is s' os') ∧ Le s s' ∧ Lay s' 1 xv x.length QI ∧ Rd s' (.ag [xv, .i .i64 a, .i .i64 b]) (stV x a b) := by
  have hI2 := Is.adds (csO s.n x a b) hI
  have hA : Hold (s.adds (csO s.n x a b)) s.n (csO s.n x a b) := by
    have := Is.hold (a := os) (os := csO s.n x a b) (b := []) (by rwa [List.append_nil])
    rwa [← hI.n] at this
  have h2 := hA.cons.2.cons.2
  refine ⟨_, _, cs_den x a b hl hI.ge, ⟨_, hI2⟩, Le.adds hI _, clv_lay h2, .ag _ _ rfl fun j hj => ?_⟩
  match j, hj with
  | 0, _ => exact clv_rd h2
  | 1, _ => exact .refl _
  | 2, _ => exact .refl _
end Go.Proofs.YtklgkdehnaecnaaDoor
