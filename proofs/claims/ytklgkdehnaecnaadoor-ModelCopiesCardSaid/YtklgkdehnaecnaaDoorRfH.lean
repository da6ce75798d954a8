/-
  Each operation's run in the model: append, copy, make, slice expressions, bytes and strings.
-/
import Derived.Test.YtklgkdehnaecnaaDoorRfG
set_option linter.all false
set_option linter.unusedSimpArgs false
namespace Rf
open Go

theorem growBy_le (L : Nat) : ∀ (r c : Nat), c ≤ L + (L + 768) / 4 → Builtin.growBy L r c ≤ L + (L + 768) / 4
  | 0, c, h => h
  | r + 1, c, h => by
    simp only [Builtin.growBy]
    split
    · exact h
    · exact growBy_le L r _ (by omega)

theorem nextcap_le (L c : Nat) (h : c < L) : Builtin.nextslicecap L c ≤ 2 * L + 1024 := by
  unfold Builtin.nextslicecap
  split
  · omega
  · split
    · omega
    · have := growBy_le L 4 c (by omega)
      omega

theorem loadCells_zero {P : Program} {w : World} (a : Addr) : (loadCells a 0).run P w = .ok #[] w := rfl
theorem storeCells_nil {P : Program} {w : World} (a : Addr) : (storeCells a []).run P w = .ok () w := rfl

section
variable {P : Program} {w : World} {cx : Cx} {s : St} {e : List V} {act : Act}

theorem Row.take {h : Array Obj} {m : Nat → Prop} {l : List V} {a : Array Value} (r : Row cx h m l a) (k : Nat) : Row cx h m (l.take k) (a.extract 0 k) := by
  by_cases hk : k ≤ l.length
  · have := seg_row r (o := 0) (n := k) (by omega)
    simpa using this
  · rw [List.take_of_length_le (by omega)]
    have : a.extract 0 k = a := by
      apply Array.ext'
      simp only [Array.toList_extract, List.extract_eq_drop_take', List.drop_zero]
      rw [List.take_of_length_le]
      have := r.len; simp; omega
    rwa [this]

/-- what is appended or copied, read off memory -/
theorem r_src (R : Rel cx s w.heap) {sz : Nat} {y : V} {x : Value} (hy : VRep cx w.heap s.L y x) {k : Nat} {new : List V} (h : srcOf s sz y = some (k, new)) :
    (Builtin.lenOf x).run P w = .ok k w ∧ new.length = k * sz ∧ ∀ m, m ≤ k → ∃ a, (Builtin.firstCells sz m x).run P w = .ok a w ∧ Row cx w.heap s.L (new.take (m * sz)) a := by
  unfold srcOf at h
  split at h
  · cases h; cases hy
    refine ⟨rfl, by simp, fun m _ => ⟨#[], rfl, by simp, fun j hj => by simp at hj, fun j hj => by simp at hj⟩⟩
  · rename_i z l
    split at h
    · rename_i hz; subst hz
      cases h; cases hy
      refine ⟨rfl, by simp, fun m hm => ?_⟩
      have h0 : m = 0 := by omega
      subst h0
      refine ⟨#[], ?_, by simp, fun j hj => by simp at hj, fun j hj => by simp at hj⟩
      simp only [Builtin.firstCells, Nat.zero_mul]; rfl
    · cases h
  · rename_i z l o n c
    split at h
    · rename_i cs zz ty0 hg
      split at h
      · rename_i hle
        obtain ⟨rfl, hle⟩ := hle
        cases h; cases hy
        obtain ⟨f, f1, f2, f3⟩ := obj_cells R hg
        refine ⟨rfl, seg_len hle, fun m hm => ?_⟩
        have hmz : m * z ≤ k * z := Nat.mul_le_mul_right z hm
        refine ⟨_, r_loadCells w _ _ (m * z) (fun j => f (o + j)) (fun j hj => by rw [Nat.add_assoc]; exact f1 _ (by omega)), ?_⟩
        have := Row.seg (cx := cx) (h := w.heap) (m := s.L) (n := m * z) f (show o + m * z ≤ cs.length by omega) f2 f3
        rwa [List.take_take, Nat.min_eq_left hmz]
      · cases h
    · cases h
  · rename_i z xs c
    split at h
    · rename_i hz; subst hz
      cases h
      obtain ⟨hs, h1 | ⟨a, cap, g, rfl, hsp, hl, one, hz, hc, hv, hr, hp⟩⟩ := hy.pu_flat'
      · obtain ⟨rfl, rfl, -⟩ := h1
        refine ⟨rfl, by simp, fun m hm => ⟨#[], rfl, by simp, fun j hj => by simp at hj, fun j hj => by simp at hj⟩⟩
      · have hfl := flat_len xs hs
        refine ⟨rfl, hfl, fun m hm => ?_⟩
        have hmz : m * z ≤ xs.length * z := Nat.mul_le_mul_right z hm
        by_cases h0 : m * z = 0
        · refine ⟨#[], ?_, ?_⟩
          · simp only [Builtin.firstCells, h0]; rfl
          · rw [h0]; exact ⟨by simp, fun j hj => by simp at hj, fun j hj => by simp at hj⟩
        · have hne : xs ≠ [] := by intro hx; subst hx; simp at hmz; omega
          have hsp' := hsp hne
          obtain ⟨bb, bo, bs⟩ := a
          simp only at hsp' hz hc; subst hsp'
          refine ⟨_, r_loadCells w bb bo (m * z) g (fun j hj => hc j (by omega)), ?_⟩
          have := Row.seg (cx := cx) (h := w.heap) (m := s.L) (o := 0) (n := m * z) (l := (xs.map V.cells).flatten) g (by rw [hfl]; omega) (fun j hj => one j (by rwa [hfl] at hj)) (fun j hj => hv j (by rwa [hfl] at hj))
          simpa using this
    · cases h
  · rename_i l
    split at h
    · rename_i hz; subst hz
      cases h; cases hy
      refine ⟨?_, by simp [bytesOf], fun m hm => ⟨_, rfl, ?_⟩⟩
      · show Result.ok l.toArray.size w = _
        simp
      · have hlen : ((⟨l.toArray⟩ : ByteArray).extract 0 m).data = (l.take m).toArray := by
          rw [ByteArray.data_extract]
          simp [List.extract_eq_drop_take']
        refine ⟨by rw [hlen]; simp [bytesOf], fun j hj => ?_, fun j hj => ?_⟩
        · have hj' : j < (l.take m).length := by simpa [bytesOf] using hj
          rw [hlen]
          have : j < m ∧ j < l.length := by simp at hj'; omega
          simp [Array.getD_eq_getD_getElem?, this.1, this.2, Value.oneCell']
        · have hj' : j < (l.take m).length := by simpa [bytesOf] using hj
          rw [hlen]
          have : j < m ∧ j < l.length := by simp at hj'; omega
          simp only [Array.getD_eq_getD_getElem?, List.getD, bytesOf]
          simp [this.1, this.2]
          exact .i _ _
    · cases h
  · cases h

/-- append where there is room -/
theorem run_append_in {t t2 el ty : TypeId} {d2 : TypeDesc} {sz : Nat} (hu : P.underlying t = some (.slice el)) (hsz : szP P el = some sz) (hu2 : P.underlying t2 = some d2) (hd2 : isSrc d2 = true)
    (base : Option Addr) (sLen sCap : Nat) (x : Value) (n : Nat) (hlen : (Builtin.lenOf x).run P w = .ok n w) (new : Array Value) (hnew : (Builtin.firstCells sz n x).run P w = .ok new w) (hle : sLen + n ≤ sCap) :
    (Builtin.append_ #[t, t2] ty #[.slice base sLen sCap, x]).run P w =
      match base with
      | some a => ((storeCells (a.add (sLen * sz)) new.toList).run P w).andThen fun _ w' => .ok (.slice base (sLen + n) sCap) w'
      | none => .ok (.slice none (sLen + n) sCap) w := by
  have hc : (∃ e2, d2 = .slice e2) ∨ d2 = .string := by cases d2 <;> simp_all [isSrc]
  rcases hc with ⟨e2, rfl⟩ | rfl <;> cases base <;>
    simp only [Builtin.append_, Sem.run_bind, r_und w hu, r_size w hsz, r_und w hu2, List.getElem?_toArray, List.getElem?_cons_zero, List.getElem?_cons_succ, Result.andThen_ok, Sem.run_pure, Bool.false_eq_true, if_false, hlen, Sem.run_ite, hle, if_true, hnew, Bool.not_false]

/-- append where there is none -/
theorem run_append_new {t t2 el ty : TypeId} {d2 : TypeDesc} {sz by_ : Nat} {z : List V} (hu : P.underlying t = some (.slice el)) (hsz : szP P el = some sz) (hby : byP P el = some by_) (hz : zeroP P el = some z) (hzl : z.length = sz) (hu2 : P.underlying t2 = some d2) (hd2 : isSrc d2 = true)
    (base : Option Addr) (sLen sCap : Nat) (x : Value) (n : Nat) (hlen : (Builtin.lenOf x).run P w = .ok n w)
    (old new : Array Value) (hold : (Builtin.firstCells sz sLen (.slice base sLen sCap)).run P { w with drawn := w.drawn + 1 } = .ok old { w with drawn := w.drawn + 1 })
    (hnew : (Builtin.firstCells sz n x).run P { w with drawn := w.drawn + 1 } = .ok new { w with drawn := w.drawn + 1 }) (hle : sCap < sLen + n) (hroom : room (sLen + n) by_ = true) :
    ∃ cap rest, (Builtin.append_ #[t, t2] ty #[.slice base sLen sCap, x]).run P w = .ok (.slice (some ⟨w.heap.size, 0, none⟩) (sLen + n) cap) { w with drawn := w.drawn + 1, heap := w.heap.push (.cells (old ++ new ++ rest) el) } ∧
      sLen + n ≤ cap ∧ rest.size = (cap - (sLen + n)) * sz := by
  have hc : (∃ e2, d2 = .slice e2) ∨ d2 = .string := by cases d2 <;> simp_all [isSrc]
  obtain ⟨i, hi1, hi2⟩ := r_bytes (P := P) w hby
  obtain ⟨zv, z1, z2, z3, z4⟩ := r_zero (P := P) { w with drawn := w.drawn + 1 } hz
  simp only [room, decide_eq_true_eq] at hroom
  have hnc := nextcap_le (sLen + n) sCap hle
  have hnc2 : Builtin.nextslicecap (sLen + n) sCap * i.bytes ≤ 281474976710656 := by
    rw [hi2]; exact Nat.le_trans (Nat.mul_le_mul_right _ hnc) hroom.2
  refine ⟨sLen + n + w.tape w.drawn (.appendCap (sLen + n) sCap el) % (2 ^ 63 - (sLen + n)), Builtin.zeroCells zv.cells (w.tape w.drawn (.appendCap (sLen + n) sCap el) % (2 ^ 63 - (sLen + n))), ?_, by omega, ?_⟩
  · have hq : (Question.appendCap (sLen + n) sCap el).forced = false := rfl
    have hmax : ¬ (((sLen + n : Nat) : Int) > IntKind.i64.max) := by simp [IntKind.max, IntKind.bits, IntKind.signed]; omega
    have hmax' : ¬ ((sLen : Int) + n > IntKind.i64.max) := by simpa using hmax
    have hi1' : (typeInfo el).run P { w with drawn := w.drawn + 1 } = .ok i { w with drawn := w.drawn + 1 } := by
      simp only [byP, Option.map_eq_some_iff] at hby
      obtain ⟨i2, h2, -⟩ := hby
      simp [typeInfo, h2] at hi1 ⊢
      exact hi1
    rcases hc with ⟨e2, rfl⟩ | rfl
    · simp only [Builtin.append_, Sem.run_bind, r_und w hu, r_size w hsz, r_und w hu2, List.getElem?_toArray, List.getElem?_cons_zero, List.getElem?_cons_succ, Result.andThen_ok, Sem.run_pure, Bool.false_eq_true, if_false, hlen, Sem.run_ite,
           show ¬ (sLen + n ≤ sCap) by omega, hi1, false_or, hmax', hmax, false_and, show ¬ (Builtin.nextslicecap (sLen + n) sCap * i.bytes > 2 ^ 48) by omega, run_choose, hq, Question.cut, run_askRoom, hi1', hold, hnew, z1, newRow_run, Bool.not_false, Bool.not_true]
      simp only [if_true, Result.andThen_ok, z1, Nat.add_sub_cancel_left]
    · simp only [Builtin.append_, Sem.run_bind, r_und w hu, r_size w hsz, r_und w hu2, List.getElem?_toArray, List.getElem?_cons_zero, List.getElem?_cons_succ, Result.andThen_ok, Sem.run_pure, Bool.false_eq_true, if_false, hlen, Sem.run_ite,
           show ¬ (sLen + n ≤ sCap) by omega, hi1, false_or, hmax', hmax, false_and, show ¬ (Builtin.nextslicecap (sLen + n) sCap * i.bytes > 2 ^ 48) by omega, run_choose, hq, Question.cut, run_askRoom, hi1', hold, hnew, z1, newRow_run, Bool.not_false, Bool.not_true]
      simp only [if_true, Result.andThen_ok, z1, Nat.add_sub_cancel_left]
  · simp only [Builtin.zeroCells, Array.size_map, Array.size_range, z2, hzl]
    congr 1; omega

theorem seg_append {cx : Cx} {h : Array Obj} {m : Nat → Prop} {l l' : List V} {a a' : Array Value} (r : Row cx h m l a) (r' : Row cx h m l' a') : Row cx h m (l ++ l') (a ++ a') := by
  have key : ∀ j, j < (l ++ l').length → ((l ++ l').getD j .bad = if j < l.length then l.getD j .bad else l'.getD (j - l.length) .bad) ∧ ((a ++ a').getD j undef = if j < l.length then a.getD j undef else a'.getD (j - l.length) undef) := fun j hj => by
    by_cases hc : j < l.length
    · rw [if_pos hc, if_pos hc]
      refine ⟨?_, ?_⟩
      · simp only [List.getD]; rw [List.getElem?_append_left hc]
      · apply arrGetD_eq; rw [Array.getElem?_append_left (by rw [r.len]; exact hc)]
    · rw [if_neg hc, if_neg hc]
      refine ⟨?_, ?_⟩
      · simp only [List.getD]; rw [List.getElem?_append_right (by omega)]
      · apply arrGetD_eq; rw [Array.getElem?_append_right (by rw [r.len]; omega), r.len]
  refine ⟨by simp [r.len, r'.len], fun j hj => ?_, fun j hj => ?_⟩
  · rw [(key j hj).2]; split
    · rename_i hc; exact r.one j hc
    · exact r'.one _ (by simp at hj; omega)
  · rw [(key j hj).1, (key j hj).2]; split
    · rename_i hc; exact r.rep j hc
    · exact r'.rep _ (by simp at hj; omega)

theorem Row.more {h : Array Obj} {m : Nat → Prop} {l : List V} {a : Array Value} (r : Row cx h m l a) (b : Array Value) : (∀ j, j < l.length → ((a ++ b).getD j undef).oneCell' = true) ∧ ∀ j, j < l.length → VRep cx h m (l.getD j .bad) ((a ++ b).getD j undef) := by
  have key : ∀ j, j < l.length → (a ++ b).getD j undef = a.getD j undef := fun j hj => by
    apply arrGetD_eq; rw [Array.getElem?_append_left (by rw [r.len]; exact hj)]
  exact ⟨fun j hj => by rw [key j hj]; exact r.one j hj, fun j hj => by rw [key j hj]; exact r.rep j hj⟩

/-- a new row behind a token, of which all elements are taken -/
theorem tok_new_rep {cx' : Cx} {h : Array Obj} {m : Nat → Prop} {sz k : Nat} {xs : List V} {arr rest : Array Value} {el : TypeId} (r : Row cx' (h.push (.cells (arr ++ rest) el)) m (xs.map V.cells).flatten arr) (hs : ∀ x ∈ xs, x.cells.length = sz) {cap : Nat} (hcap : xs.length ≤ cap)
    (hrest : rest.size = (cap - xs.length) * sz) (hk : m k) (htk : cx'.tk k = ⟨h.size, 0, xs.length * sz, (arr ++ rest).size⟩) (hfz : ∀ j, j < xs.length * sz → cx'.fz h.size j) :
    VRep cx' (h.push (.cells (arr ++ rest) el)) m (.pu sz xs (.t k)) (.slice (some ⟨h.size, 0, none⟩) xs.length cap) := by
  have hfl := flat_len xs hs
  have hal : arr.size = xs.length * sz := by rw [r.len, hfl]
  refine VRep.pu_flat (fun j => arr.getD j undef) hs (fun j hj => r.one j (by rw [hfl]; exact hj)) (fun j hj => by rw [Nat.zero_add]; exact hfz j hj) (fun j hj => ?_) (fun j hj => r.rep j (by rw [hfl]; exact hj)) hcap ?_
  · rw [cellAt_push_new, Nat.zero_add, Array.getElem?_append_left (by omega)]
    have : j < arr.size := by omega
    simp [Array.getD_eq_getD_getElem?, this]
  · refine ⟨hk, by rw [htk]; exact Nat.le_refl _, fun _ => by
      rw [htk]
      refine ⟨rfl, rfl, ?_⟩
      simp only [Array.size_append, hal, hrest]
      have : cap * sz = xs.length * sz + (cap - xs.length) * sz := by rw [← Nat.add_mul]; congr 1; omega
      omega, hcap⟩

end
end Rf
