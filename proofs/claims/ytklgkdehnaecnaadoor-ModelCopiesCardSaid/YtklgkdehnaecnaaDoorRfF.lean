/-
  Each operation's run in the model: rows that are never written; places; what needs no memory.
-/
import Derived.Test.YtklgkdehnaecnaaDoorRfE
set_option linter.all false
set_option linter.unusedSimpArgs false
namespace Rf
open Go

theorem VRep.one_cells {cx : Cx} {h : Array Obj} {n : Nat → Prop} {v : V} {x : Value} (hv : VRep cx h n v x) (h1 : x.oneCell' = true) : v.cells = [v] := by
  cases hv <;> first | rfl | (simp [Value.oneCell'] at h1)

theorem flat_len {sz : Nat} : ∀ (xs : List V), (∀ x ∈ xs, x.cells.length = sz) → ((xs.map V.cells).flatten).length = xs.length * sz
  | [], _ => by simp
  | x :: xs, h => by
    simp only [List.map_cons, List.flatten_cons, List.length_append, List.length_cons]
    rw [flat_len xs (fun y hy => h y (by simp [hy])), h x (by simp), Nat.succ_mul, Nat.add_comm]

theorem flat_get {sz : Nat} : ∀ (xs : List V), (∀ x ∈ xs, x.cells.length = sz) → ∀ i j, i < xs.length → j < sz →
    ((xs.map V.cells).flatten).getD (i * sz + j) .bad = (xs.getD i .bad).cells.getD j .bad
  | [], _, i, j, hi, _ => by simp at hi
  | x :: xs, h, i, j, hi, hj => by
    simp only [List.map_cons, List.flatten_cons]
    have hx := h x (by simp)
    cases i with
    | zero =>
      simp only [Nat.zero_mul, Nat.zero_add, List.getD_cons_zero]
      simp only [List.getD]
      rw [List.getElem?_append_left (by omega)]
    | succ i =>
      have := flat_get xs (fun y hy => h y (by simp [hy])) i j (by simpa using hi) hj
      simp only [List.getD_cons_succ]
      rw [← this]
      simp only [List.getD]
      rw [List.getElem?_append_right (by rw [hx, Nat.succ_mul]; omega), hx, Nat.succ_mul, show i * sz + sz + j - sz = i * sz + j by omega]

/-- a row that is never written, as a slice -/
theorem VRep.pu_flat {cx : Cx} {h : Array Obj} {m : Nat → Prop} {sz : Nat} {xs : List V} {c : Cap} {b d cap : Nat} (g : Nat → Value) (hs : ∀ x ∈ xs, x.cells.length = sz)
    (one : ∀ j, j < xs.length * sz → (g j).oneCell' = true) (hz : ∀ j, j < xs.length * sz → cx.fz b (d + j)) (hc : ∀ j, j < xs.length * sz → cellAt h b (d + j) = some (g j))
    (hv : ∀ j, j < xs.length * sz → VRep cx h m (((xs.map V.cells).flatten).getD j .bad) (g j)) (hl : xs.length ≤ cap) (hr : capR cx m c b d sz xs.length (xs.length * sz) cap) :
    VRep cx h m (.pu sz xs c) (.slice (some ⟨b, d, none⟩) xs.length cap) := by
  have key : ∀ i j, i < xs.length → j < sz → i * sz + j < xs.length * sz := fun i j hi hj => by
    have : (i + 1) * sz ≤ xs.length * sz := Nat.mul_le_mul_right sz hi
    rw [Nat.succ_mul] at this; omega
  refine .pu sz xs c ⟨b, d, none⟩ cap (fun i j => g (i * sz + j)) (fun _ => rfl) (fun i j hi hj => one _ (key i j hi hj)) (fun i hi => ?_) (fun i j hi hj => ?_) (fun i j hi hj => ?_) (fun i j hi hj => ?_) hl hr (fun _ _ => rfl)
  · refine hs _ ?_
    simp [List.getD, hi]
  · rw [Nat.add_assoc]; exact hz _ (key i j hi hj)
  · rw [Nat.add_assoc]; exact hc _ (key i j hi hj)
  · rw [← flat_get xs hs i j hi hj]; exact hv _ (key i j hi hj)

/-- what a slice's cells are: the way back -/
theorem VRep.pu_flat' {cx : Cx} {h : Array Obj} {m : Nat → Prop} {sz : Nat} {xs : List V} {c : Cap} {x : Value} (hv : VRep cx h m (.pu sz xs c) x) :
    (∀ y ∈ xs, y.cells.length = sz) ∧ ((xs = [] ∧ x = .slice none 0 0 ∧ capN c) ∨ ∃ (a : Addr) (cap : Nat) (g : Nat → Value), x = .slice (some a) xs.length cap ∧ (xs ≠ [] → a.spot = none) ∧ xs.length ≤ cap ∧
      (∀ j, j < xs.length * sz → (g j).oneCell' = true) ∧ (∀ j, j < xs.length * sz → cx.fz a.block (a.off + j)) ∧
      (∀ j, j < xs.length * sz → cellAt h a.block (a.off + j) = some (g j)) ∧ (∀ j, j < xs.length * sz → VRep cx h m (((xs.map V.cells).flatten).getD j .bad) (g j)) ∧
      capR cx m c a.block a.off sz xs.length (xs.length * sz) cap ∧ (∀ k, c = .t k → a.spot = none)) := by
  cases hv with
  | pu0 sz c hc => exact ⟨by simp, .inl ⟨rfl, rfl, hc⟩⟩
  | pu sz xs c a cap f ha h1 hs hz hc hv hl hr hp =>
    have hs' : ∀ y ∈ xs, y.cells.length = sz := fun y hy => by
      obtain ⟨i, hi, rfl⟩ := List.mem_iff_getElem.1 hy
      have := hs i hi
      simpa [List.getD, hi] using this
    refine ⟨hs', .inr ⟨a, cap, fun j => f (j / sz) (j % sz), rfl, ha, hl, ?_⟩⟩
    have key : ∀ j, j < xs.length * sz → j / sz < xs.length ∧ j % sz < sz ∧ j / sz * sz + j % sz = j := fun j hj => by
      have h0 : 0 < sz := by
        rcases Nat.eq_zero_or_pos sz with h | h
        · subst h; simp at hj
        · exact h
      refine ⟨Nat.div_lt_of_lt_mul (by rw [Nat.mul_comm]; exact hj), Nat.mod_lt _ h0, ?_⟩
      rw [Nat.mul_comm]; exact Nat.div_add_mod j sz
    refine ⟨fun j hj => h1 _ _ (key j hj).1 (key j hj).2.1, fun j hj => ?_, fun j hj => ?_, fun j hj => ?_, hr, hp⟩
    · have := hz _ _ (key j hj).1 (key j hj).2.1
      rwa [Nat.add_assoc, (key j hj).2.2] at this
    · have := hc _ _ (key j hj).1 (key j hj).2.1
      rwa [Nat.add_assoc, (key j hj).2.2] at this
    · have := hv _ _ (key j hj).1 (key j hj).2.1
      rw [← flat_get xs hs' _ _ (key j hj).1 (key j hj).2.1, (key j hj).2.2] at this
      exact this

theorem chunks_len (ag : Bool) (sz : Nat) : ∀ (n : Nat) (cs : List V), (chunks ag sz cs n).length = n
  | 0, _ => rfl
  | n + 1, cs => by simp [chunks, chunks_len ag sz n]

/-- elements' cells are the cells -/
theorem chunks_flat (ag : Bool) (sz : Nat) (hag : ag = true ∨ sz = 1) : ∀ (n : Nat) (cs : List V), cs.length = n * sz → (ag = false → ∀ v ∈ cs, v.cells = [v]) →
    ((chunks ag sz cs n).map V.cells).flatten = cs ∧ ∀ x ∈ chunks ag sz cs n, x.cells.length = sz
  | 0, cs, h, _ => by
    have : cs = [] := by simpa using h
    subst this; simp [chunks]
  | n + 1, cs, h, h1 => by
    rw [Nat.succ_mul] at h
    obtain ⟨e1, e2⟩ := chunks_flat ag sz hag n (cs.drop sz) (by simp; omega) (fun ha v hv => h1 ha v (List.mem_of_mem_drop hv))
    have key : (mkEl ag (cs.take sz)).cells = cs.take sz := by
      cases ag with
      | true => rfl
      | false =>
        have hs : sz = 1 := by simpa using hag
        subst hs
        cases cs with
        | nil => simp at h
        | cons c cs => simp only [mkEl, List.take_succ_cons, List.take_zero, List.headD_cons, Bool.false_eq_true, if_false]; exact h1 rfl c (by simp)
    simp only [chunks, List.map_cons, List.flatten_cons, e1, key, List.take_append_drop, true_and]
    intro x hx
    rcases List.mem_cons.1 hx with rfl | hx
    · rw [key]; simp; omega
    · exact e2 x hx

theorem rep_flat_len (n : Nat) (z : List V) : ((List.replicate n z).flatten).length = n * z.length := by
  induction n with
  | zero => simp
  | succ n ih => simp [List.replicate_succ, ih, Nat.succ_mul, Nat.add_comm]

theorem rep_flat_get (z : List V) (hz : 0 < z.length) : ∀ (n j : Nat), j < n * z.length → ((List.replicate n z).flatten).getD j .bad = z.getD (j % z.length) .bad
  | 0, j, h => by simp at h
  | n + 1, j, h => by
    simp only [List.replicate_succ, List.flatten_cons]
    rw [Nat.succ_mul] at h
    by_cases hj : j < z.length
    · rw [Nat.mod_eq_of_lt hj]
      simp only [List.getD]
      rw [List.getElem?_append_left hj]
    · have := rep_flat_get z hz n (j - z.length) (by omega)
      rw [Nat.mod_eq_sub_mod (by omega), ← this]
      simp only [List.getD]
      rw [List.getElem?_append_right (by omega)]

/-- zero cells, as the model lays them -/
theorem zero_row {cx : Cx} {h : Array Obj} {m : Nat → Prop} {z : List V} {zs : Array Value} (hz0 : 0 < z.length) (r : Row cx h m z zs) (n : Nat) :
    Row cx h m (List.replicate n z).flatten ((Array.range (n * z.length)).map (zs[· % zs.size]!)) := by
  have hl := rep_flat_len n z
  have key : ∀ j, j < n * z.length → ((Array.range (n * z.length)).map (zs[· % zs.size]!)).getD j undef = zs.getD (j % z.length) undef := fun j hj => by
    have : j % zs.size < zs.size := Nat.mod_lt _ (by rw [r.len]; exact hz0)
    simp only [Array.getD_eq_getD_getElem?, Array.getElem?_map, Array.getElem?_range, hj, if_true, Option.map_some, Option.getD_some]
    rw [← r.len, getElem!_pos zs _ this, Array.getElem?_eq_getElem this, Option.getD_some]
  refine ⟨by simp [hl], fun j hj => ?_, fun j hj => ?_⟩
  · rw [hl] at hj
    rw [key j hj]; exact r.one _ (Nat.mod_lt _ hz0)
  · rw [hl] at hj
    rw [key j hj, rep_flat_get z hz0 n j hj]; exact r.rep _ (Nat.mod_lt _ hz0)

theorem row_one_cells {cx : Cx} {h : Array Obj} {m : Nat → Prop} {l : List V} {a : Array Value} (r : Row cx h m l a) : ∀ v ∈ l, v.cells = [v] := by
  intro v hv
  obtain ⟨j, hj, rfl⟩ := List.mem_iff_getElem.1 hv
  have := (r.rep j hj).one_cells (r.one j hj)
  simpa [List.getD, hj] using this

section
variable {gt : Nat → Option V} {P : Program} {w : World} {cx : Cx} {s : St} {e : List V} {act : Act}

theorem sim_bsl (E : ERep gt cx w.heap s.L e act.tmps) (R : Rel cx s w.heap) {t el : TypeId} {n sz : Nat} {wh ag : Bool} {z : List V} (hu : P.underlying t = some (.slice el)) (hsz : szP P el = some sz) (hz : zeroP P el = some z)
    (h0 : 0 < sz) (hzl : z.length = sz) (hle : n * sz ≤ 16777216) (hag : ag = true ∨ sz = 1) (ps : Array (Nat × Operand)) (ps' : List (Nat × Nat × Arg)) (hp : cParts gt (fun i => some (i * sz, sz)) ps.toList = some ps')
    {v : V} {s' : St} (hop : aop e s (.bsl el wh ag n sz z ps') = some (v, s')) :
    Ok ((Instr.buildSlice t n (ps.map fun (i, x) => (i, act.eval x))).run P w) cx s w v s' := by
  simp only [aop] at hop
  split at hop
  · cases hop
  · rename_i cs hcs
    obtain ⟨x, e1, e2, e3, e4⟩ := r_zero (P := P) w hz
    have r0 : Row cx w.heap s.L z x.cells := ⟨e2, e3, fun j hj => e4 cx w.heap s.L j hj⟩
    have r1 := zero_row (by omega) r0 n
    rw [hzl] at r1
    obtain ⟨a', f1, f2⟩ := fill_rep E _ _ _ hp _ cs _ r1 hcs
    have hcl : cs.length = n * sz := by
      have : ∀ (ps : List (Nat × Nat × Arg)) (l l' : List V), fillp e l ps = some l' → l'.length = l.length := by
        intro ps
        induction ps with
        | nil => intro l l' h; simp [fillp] at h; rw [h]
        | cons p ps ih =>
          intro l l' h
          obtain ⟨o, m, y⟩ := p
          simp only [fillp] at h
          split at h
          · rw [ih _ _ h, setAt_len]
          · cases h
      rw [this _ _ _ hcs, rep_flat_len, hzl]
    have hrun : (Instr.buildSlice t n (ps.map fun (i, x) => (i, act.eval x))).run P w = .ok (.slice (some ⟨w.heap.size, 0, none⟩) n n) { w with heap := w.heap.push (.cells a' el) } := by
      by_cases h : n * sz = 0
      · have harr : (Array.range (n * sz)).map ((#[] : Array Value)[· % (#[] : Array Value).size]!) = (Array.range (n * sz)).map (x.cells[· % x.cells.size]!) := by simp [h]
        simp only [Instr.buildSlice, Sem.run_bind, r_und w hu, Result.andThen_ok, r_size w hsz, Sem.run_ite, h, show ¬ (0 > 2 ^ 24) by decide, if_false, if_true, Sem.run_pure]
        rw [h] at harr f1
        rw [harr, Array.toList_map, f1]
        simp only [Sem.run_bind, newRow_run, Result.andThen_ok, Sem.run_pure]
      · simp only [Instr.buildSlice, Sem.run_bind, r_und w hu, Result.andThen_ok, r_size w hsz, Sem.run_ite, show ¬ (n * sz > 2 ^ 24) by simp; omega, if_false, h, e1, Sem.run_pure, Array.toList_map, f1, newRow_run]
    rw [hrun]
    split at hop
    · cases hop
      obtain ⟨cx', c1, c2, c3⟩ := R.imm a' el (0, 0)
      have r2 := f2.later c3.later
      obtain ⟨k1, k2⟩ := chunks_flat ag sz hag n cs hcl (fun _ => row_one_cells f2)
      refine ⟨_, _, cx', rfl, ?_, c2, c3, ⟨rfl, rfl⟩⟩
      have hl := chunks_len ag sz n cs
      have : VRep cx' (w.heap.push (.cells a' el)) s.L (.pu sz (chunks ag sz cs n) (.x n)) (.slice (some ⟨w.heap.size, 0, none⟩) (chunks ag sz cs n).length n) :=
        VRep.pu_flat (fun j => a'.getD j undef) k2 (fun j hj => r2.one j (by rw [hcl]; rwa [hl] at hj)) (fun j hj => by rw [Nat.zero_add]; exact c1 j (by rw [r2.len, hcl]; rwa [hl] at hj))
          (fun j hj => by
            rw [hl] at hj
            rw [cellAt_push_new, Nat.zero_add]
            have : j < a'.size := by rw [r2.len, hcl]; exact hj
            simp [Array.getD_eq_getD_getElem?, this])
          (fun j hj => by rw [k1]; exact r2.rep j (by rw [hcl]; rwa [hl] at hj)) (by rw [hl]; exact Nat.le_refl _) (by simp [capR])
      rwa [hl] at this
    · cases hop
      obtain ⟨cx', c1, c2, c3⟩ := R.new cs a' el (some el) (fun _ h => by cases h; rfl) (by rw [f2.len]; exact Nat.le_refl _) f2.one f2.rep
      refine ⟨_, _, cx', rfl, ?_, c2, c3, ⟨rfl, rfl⟩⟩
      have : VRep cx' (w.heap.push (.cells a' el)) (s.new (.c cs 0 (some el))).L (.sl sz s.n 0 n (some n)) (.slice (some ⟨(cx'.r s.n).b, (cx'.r s.n).d + 0, none⟩) n n) :=
        .sl sz s.n 0 n (some n) n (St.new_L0 _ R.gl) (Nat.le_refl _) ⟨rfl, by rw [c1]; simp [hcl]⟩
      rw [c1] at this
      simpa using this

theorem sim_fa (R : Rel cx s w.heap) {t : TypeId} {fs : Array Field} {i n : Nat} {fd : Field} (hu : P.underlying t = some (.struct fs)) (hf : fs[i]? = some fd) (hn : szP P fd.type = some n) (h0 : n ≠ 0) {a : Arg} {x : Value} (hx : VRep cx w.heap s.L (a.ev e) x)
    {v : V} {s' : St} (hop : aop e s (.fa fd.offset a) = some (v, s')) : Ok ((Instr.fieldAt t x i).run P w) cx s w v s' := by
  simp only [aop] at hop
  split at hop
  · rename_i l o hev
    rw [hev] at hx; cases hop; cases hx
    rename_i hl
    refine ⟨.pointer (some ⟨(cx.r l).b, (cx.r l).d + (o + fd.offset), none⟩), w, cx, ?_, .p l (o + fd.offset) hl, R, .refl _ _ _, .rfl⟩
    simp only [Instr.fieldAt, Sem.run_bind, r_und w hu, Result.andThen_ok, hf, Instr.sureAddr, Sem.run_pure, fieldPlace, r_size w hn, h0, if_false, add_none, Nat.add_assoc]
  · rename_i q o hev
    rw [hev] at hx; cases hop; cases hx
    rename_i b d f h1 hz hc hv
    refine ⟨.pointer (some ⟨b, d + (o + fd.offset), none⟩), w, cx, ?_, .q q (o + fd.offset) b d f h1 hz hc hv, R, .refl _ _ _, .rfl⟩
    simp only [Instr.fieldAt, Sem.run_bind, r_und w hu, Result.andThen_ok, hf, Instr.sureAddr, Sem.run_pure, fieldPlace, r_size w hn, h0, if_false, add_none, Nat.add_assoc]
  · cases hop

theorem list_get_lt {α : Type} {l : List α} {i : Nat} {x : α} (h : l[i]? = some x) : i < l.length := by
  rcases Nat.lt_or_ge i l.length with h1 | h1
  · exact h1
  · rw [List.getElem?_eq_none h1] at h; cases h

theorem seg_row {cs : List V} {vs : Array Value} {h : Array Obj} {m : Nat → Prop} (r : Row cx h m cs vs) {o n : Nat} (hle : o + n ≤ cs.length) : Row cx h m ((cs.drop o).take n) (vs.extract o (o + n)) := by
  have hl := seg_len hle
  have key : ∀ j, j < n → (vs.extract o (o + n)).getD j undef = vs.getD (o + j) undef := fun j hj => by
    apply arrGetD_eq
    rw [Array.getElem?_extract]
    have := r.len
    rw [if_pos (by omega)]
  refine ⟨by rw [hl]; have := r.len; simp; omega, fun j hj => ?_, fun j hj => ?_⟩
  · rw [key j (by omega)]; exact r.one _ (by omega)
  · rw [key j (by omega), list_seg hle (by omega)]; exact r.rep _ (by omega)

/-- a part of a struct's or an array's value -/
theorem r_part {cs : List V} {vs : Array Value} (r : Row cx w.heap s.L cs vs) (R : Rel cx s w.heap) {t : TypeId} {ag : Bool} (ha : agP P t = some ag) {n : Nat} (hn : szP P t = some n) (o : Nat) {v : V} {s' : St}
    (hop : (match ag with | true => if o + n ≤ cs.length then some (V.ag ((cs.drop o).take n), s) else none | false => (cs[o]?).map fun v => (v, s)) = some (v, s')) :
    Ok ((part t vs o).run P w) cx s w v s' := by
  cases ag with
  | true =>
    simp only at hop
    split at hop
    · rename_i hle
      cases hop
      refine ⟨_, w, cx, ?_, (seg_row r hle).ag, R, .refl _ _ _, .rfl⟩
      simp only [part, Sem.run_bind, r_isAgg w ha, Result.andThen_ok, if_true, r_size w hn, Sem.run_pure]
    · cases hop
  | false =>
    simp only [Option.map_eq_some_iff] at hop
    obtain ⟨v', h1, h2⟩ := hop
    cases h2
    have ho := list_get_lt h1
    have ho' : o < vs.size := by rw [r.len]; exact ho
    refine ⟨vs[o], w, cx, ?_, ?_, R, .refl _ _ _, .rfl⟩
    · simp [part, Sem.run_bind, r_isAgg w ha, Array.getElem?_eq_getElem ho']
    · have := r.rep o ho
      simpa [List.getD, h1, Array.getD_eq_getD_getElem?, ho'] using this

theorem sim_fld (R : Rel cx s w.heap) {t : TypeId} {fs : Array Field} {i n : Nat} {fd : Field} {ag : Bool} (hu : P.underlying t = some (.struct fs)) (hf : fs[i]? = some fd) (ha : agP P fd.type = some ag) (hn : szP P fd.type = some n) {a : Arg} {x : Value} (hx : VRep cx w.heap s.L (a.ev e) x)
    {v : V} {s' : St} (hop : aop e s (.fld fd.offset (if ag then some n else none) a) = some (v, s')) : Ok ((Instr.field t x i).run P w) cx s w v s' := by
  simp only [aop] at hop
  split at hop
  · rename_i cs hev
    rw [hev] at hx
    have hr := hx.row rfl
    cases hx
    rename_i vs h1 h2 h3
    have := r_part (P := P) hr R ha hn fd.offset (v := v) (s' := s') (by cases ag <;> simp only [Bool.false_eq_true, if_true, if_false] at hop <;> exact hop)
    simpa only [Instr.field, Sem.run_bind, r_und w hu, Result.andThen_ok, hf, asAgg, Sem.run_pure, Value.cells] using this
  · cases hop

theorem sim_ext (R : Rel cx s w.heap) {i : Nat} {a : Arg} {x : Value} (hx : VRep cx w.heap s.L (a.ev e) x) {v : V} {s' : St} (hop : aop e s (.ext a i) = some (v, s')) : Ok ((Instr.extract x i).run P w) cx s w v s' := by
  simp only [aop] at hop
  split at hop
  · rename_i cs hev
    rw [hev] at hx; cases hx
    rename_i vs h1 h2
    simp only [Option.map_eq_some_iff] at hop
    obtain ⟨v', h3, h4⟩ := hop
    cases h4
    have ho := list_get_lt h3
    have ho' : i < vs.size := by omega
    refine ⟨vs[i], w, cx, ?_, ?_, R, .refl _ _ _, .rfl⟩
    · simp [Instr.extract, Array.getElem?_eq_getElem ho']
    · have := h2 i ho
      simpa [List.getD, h3, Array.getD_eq_getD_getElem?, ho'] using this
  · cases hop

end
end Rf
