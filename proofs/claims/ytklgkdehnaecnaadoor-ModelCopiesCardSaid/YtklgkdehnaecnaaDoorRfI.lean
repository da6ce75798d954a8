/-
  append.
-/
import Derived.Test.YtklgkdehnaecnaaDoorRfH
set_option linter.all false
set_option linter.unusedSimpArgs false
namespace Rf
open Go

section
variable {P : Program} {w : World} {cx : Cx} {s : St} {e : List V} {act : Act}

theorem row_nil {h : Array Obj} {m : Nat → Prop} {a : Array Value} (r : Row cx h m [] a) : a = #[] := Array.eq_empty_of_size_eq_zero (by simpa using r.len)

theorem flat_app {ag : Bool} {sz k : Nat} {xs new : List V} (k1 : ((chunks ag sz new k).map V.cells).flatten = new) : ((xs ++ chunks ag sz new k).map V.cells).flatten = (xs.map V.cells).flatten ++ new := by
  rw [List.map_append, List.flatten_append, k1]

/-- a slice's value, as append and copy see it -/
theorem slice_shape (R : Rel cx s w.heap) {sz : Nat} {y : V} {x : Value} (hy : VRep cx w.heap s.L y x) {k : Nat} {new : List V} (h : srcOf s sz y = some (k, new)) (hs : ∀ l, y ≠ .s l) : ∃ base cap, x = .slice base k cap := by
  unfold srcOf at h
  split at h
  · cases h; cases hy; exact ⟨_, _, rfl⟩
  · split at h
    · cases h; cases hy; exact ⟨_, _, rfl⟩
    · cases h
  · split at h
    · split at h
      · cases h; cases hy; exact ⟨_, _, rfl⟩
      · cases h
    · cases h
  · split at h
    · cases h; cases hy
      · exact ⟨_, _, rfl⟩
      · exact ⟨_, _, rfl⟩
    · cases h
  · exact (hs _ rfl).elim
  · cases h

theorem app_pure_new (R : Rel cx s w.heap) {el : TypeId} {sz k len : Nat} {ag : Bool} (hag : ag = true ∨ sz = 1) {oldc new : List V} {xs : List V} {old nw rest : Array Value} {cap : Nat} (ro : Row cx w.heap s.L oldc old) (rn : Row cx w.heap s.L new nw)
    (ho : oldc = (xs.map V.cells).flatten) (hs : ∀ x ∈ xs, x.cells.length = sz) (hlen : xs.length = len) (hnl : new.length = k * sz) (hcap : len + k ≤ cap) (hrest : rest.size = (cap - (len + k)) * sz) :
    ∃ cx', VRep cx' (w.heap.push (.cells (old ++ nw ++ rest) el)) (s.new (.t ((len + k) * sz))).L (.pu sz (xs ++ chunks ag sz new k) (.t s.n)) (.slice (some ⟨w.heap.size, 0, none⟩) (len + k) cap) ∧
      Rel cx' (s.new (.t ((len + k) * sz))) (w.heap.push (.cells (old ++ nw ++ rest) el)) ∧ Ext cx s w.heap cx' (s.new (.t ((len + k) * sz))) (w.heap.push (.cells (old ++ nw ++ rest) el)) := by
  obtain ⟨k1, k2⟩ := chunks_flat ag sz hag k new hnl (fun _ => row_one_cells rn)
  have hfl := flat_len xs hs
  have r := seg_append ro rn
  have hall : ∀ x ∈ xs ++ chunks ag sz new k, x.cells.length = sz := fun x hx => by
    rcases List.mem_append.1 hx with h | h
    · exact hs x h
    · exact k2 x h
  have hsize : (old ++ nw).size = (len + k) * sz := by rw [r.len, List.length_append, ho, hfl, hnl, hlen, Nat.add_mul]
  obtain ⟨cx', c1, c2, c3, c4⟩ := R.tokNew (old ++ nw ++ rest) el ((len + k) * sz) (by simp only [Array.size_append] at hsize ⊢; omega)
  have r' := r.later c4.later
  rw [ho, ← flat_app k1] at r'
  have hl : (xs ++ chunks ag sz new k).length = len + k := by rw [List.length_append, chunks_len, hlen]
  refine ⟨cx', ?_, c3, c4⟩
  have := tok_new_rep (k := s.n) (m := (s.new (.t ((len + k) * sz))).L) r' hall (cap := cap) (by rw [hl]; exact hcap) (by rw [hl]; exact hrest) (St.new_L0 _ R.gl) (by rw [c1, hl]) (fun j hj => c2 j (by rwa [hl] at hj))
  rwa [hl] at this

theorem app_heap_new (R : Rel cx s w.heap) {el : TypeId} {sz k len : Nat} {oldc new : List V} {old nw rest : Array Value} {cap : Nat} (ro : Row cx w.heap s.L oldc old) (rn : Row cx w.heap s.L new nw)
    (hol : oldc.length = len * sz) (hnl : new.length = k * sz) (hcap : len + k ≤ cap) (hrest : rest.size = (cap - (len + k)) * sz) :
    ∃ cx', VRep cx' (w.heap.push (.cells (old ++ nw ++ rest) el)) (s.new (.c (oldc ++ new) 0 (some el))).L (.sl sz s.n 0 (len + k) none) (.slice (some ⟨w.heap.size, 0, none⟩) (len + k) cap) ∧
      Rel cx' (s.new (.c (oldc ++ new) 0 (some el))) (w.heap.push (.cells (old ++ nw ++ rest) el)) ∧ Ext cx s w.heap cx' (s.new (.c (oldc ++ new) 0 (some el))) (w.heap.push (.cells (old ++ nw ++ rest) el)) := by
  have r := seg_append ro rn
  obtain ⟨m1, m2⟩ := r.more rest
  have hsize : (old ++ nw).size = (len + k) * sz := by rw [r.len, List.length_append, hol, hnl, Nat.add_mul]
  have hmul : cap * sz = (len + k) * sz + (cap - (len + k)) * sz := by rw [← Nat.add_mul]; congr 1; omega
  obtain ⟨cx', c1, c2, c3⟩ := R.new (oldc ++ new) (old ++ nw ++ rest) el (some el) (fun _ h => by cases h; rfl) (by rw [Array.size_append, r.len]; omega) m1 m2
  refine ⟨cx', ?_, c2, c3⟩
  have : VRep cx' (w.heap.push (.cells (old ++ nw ++ rest) el)) (s.new (.c (oldc ++ new) 0 (some el))).L (.sl sz s.n 0 (len + k) none) (.slice (some ⟨(cx'.r s.n).b, (cx'.r s.n).d + 0, none⟩) (len + k) cap) :=
    .sl sz s.n 0 (len + k) none cap (St.new_L0 _ R.gl) hcap ⟨by rw [c1]; simp only [List.length_append, hol, hnl]; rw [← Nat.add_mul, hmul]; omega, by rw [c1]; simp only [Array.size_append] at hsize ⊢; omega⟩
  rw [c1] at this
  simpa using this

/-- a new object's type forgotten -/
theorem Rel.untype {cx : Cx} {s : St} {h : Array Obj} {cs : List V} {z : Nat} {ty : Option Nat} (hg : ∀ l ∈ s.g, l < s.n) (R : Rel cx (s.new (.c cs z ty)) h) : Rel cx (s.new (.c cs z none)) h := by
  have hget : ∀ l o, (s.new (.c cs z none)).get l = some o → (l = s.n ∧ o = .c cs z none) ∨ (l ≠ s.n ∧ (s.new (.c cs z ty)).get l = some o) := fun l o h => by
    by_cases hl : l = s.n
    · subst hl; rw [St.get_new_same] at h; cases h; exact .inl ⟨rfl, rfl⟩
    · rw [St.get_new_ne _ _ _ hl] at h; exact .inr ⟨hl, by rw [St.get_new_ne _ _ _ hl]; exact h⟩
  have hnew : (s.new (.c cs z ty)).get s.n = some (.c cs z ty) := St.get_new_same _ _
  refine ⟨fun l hl => ?_, R.gl, fun l o ho => ?_, fun l l' o o' h1 h2 hne => ?_, R.fzl, fun l cs' z' t ho => ?_, fun l e ho => ?_⟩
  · cases hgt : (s.new (.c cs z none)).get l with
    | none => rfl
    | some o =>
      rcases hget l o hgt with ⟨rfl, -⟩ | ⟨-, h2⟩
      · exact (hl (St.new_L0 _ hg)).elim
      · exact (hl (R.name_L h2)).elim
  · rcases hget l o ho with ⟨rfl, rfl⟩ | ⟨-, h2⟩
    · obtain ⟨arr, el, lo, hi, b1, b2, b3, b4, b5⟩ := R.obj s.n _ hnew
      exact ⟨arr, el, lo, hi, b1, ⟨b2.1, b2.2.1, b2.2.2.1, fun T hT => by cases hT⟩, b3, b4, b5⟩
    · exact R.obj l o h2
  · rcases hget l o h1 with ⟨rfl, rfl⟩ | ⟨-, h3⟩ <;> rcases hget l' o' h2 with ⟨rfl, rfl⟩ | ⟨-, h4⟩
    · exact (hne rfl).elim
    · exact R.inj s.n l' (.c cs z ty) o' hnew h4 hne
    · exact R.inj l s.n o (.c cs z ty) h3 hnew hne
    · exact R.inj l l' o o' h3 h4 hne
  · rcases hget l _ ho with ⟨rfl, h1⟩ | ⟨-, h2⟩
    · exact R.fzo s.n cs z ty hnew
    · exact R.fzo l cs' z' t h2
  · rcases hget l _ ho with ⟨_, h1⟩ | ⟨-, h2⟩
    · cases h1
    · exact R.fzt l e h2
theorem Ext.untype {cx cx' : Cx} {s0 s : St} {h h' : Array Obj} {cs : List V} {z : Nat} {ty : Option Nat} (E : Ext cx s0 h cx' (s.new (.c cs z ty)) h') : Ext cx s0 h cx' (s.new (.c cs z none)) h' := by
  refine ⟨E.later, E.size, E.frame, fun b ⟨l, o, hg, hb⟩ => ?_, E.nfz⟩
  by_cases hl : l = s.n
  · subst hl
    rw [St.get_new_same] at hg; cases hg
    exact E.own b ⟨s.n, _, St.get_new_same _ _, hb⟩
  · rw [St.get_new_ne _ _ _ hl] at hg
    exact E.own b ⟨l, o, by rw [St.get_new_ne _ _ _ hl]; exact hg, hb⟩
/-- begun with less -/
theorem Ext.from_sub {cx cx' : Cx} {s0 s s' : St} {h h' : Array Obj} (E : Ext cx s0 h cx' s' h') (hs : Sub s0 s) : Ext cx s h cx' s' h' := by
  refine ⟨by rw [← hs.L]; exact E.later, E.size, fun b hb ho => E.frame b hb (fun h1 => ho (h1.sub hs)), fun b hb => (E.own b hb).imp (fun h1 => h1.sub hs) id, fun b o hf => ?_⟩
  rcases E.nfz b o hf with h1 | h1 | h1
  · exact .inl h1
  · exact .inr (.inl (h1.sub hs))
  · exact .inr (.inr h1)

theorem sim_app (R : Rel cx s w.heap) {t t2 el ty : TypeId} {d2 : TypeDesc} {sz by_ : Nat} {z : List V} {wh ag : Bool} (hu : P.underlying t = some (.slice el)) (hsz : szP P el = some sz) (hby : byP P el = some by_) (hz : zeroP P el = some z) (hzl : z.length = sz) (h0 : 0 < sz) (hag : ag = true ∨ sz = 1)
    (hu2 : P.underlying t2 = some d2) (hd2 : isSrc d2 = true) {a b : Arg} {x y : Value} (hx : VRep cx w.heap s.L (a.ev e) x) (hy : VRep cx w.heap s.L (b.ev e) y)
    {v : V} {s' : St} (hop : aop e s (.app el wh ag sz by_ a b) = some (v, s')) : Ok ((Builtin.append_ #[t, t2] ty #[x, y]).run P w) cx s w v s' := by
  simp only [aop] at hop
  split at hop
  case h_2 => cases hop
  rename_i k new hsrc
  generalize a.ev e = av at *
  generalize b.ev e = bv at *
  obtain ⟨hlen, hnl, hrow⟩ := r_src (P := P) R hy hsrc
  obtain ⟨-, -, hrow'⟩ := r_src (P := P) (w := { w with drawn := w.drawn + 1 }) R hy hsrc
  obtain ⟨nw, hnw, rn⟩ := hrow k (Nat.le_refl _)
  obtain ⟨nw', hnw', rn'⟩ := hrow' k (Nat.le_refl _)
  rw [← hnl, List.take_length] at rn rn'
  unfold appV at hop
  split at hop
  · -- nil
    cases hx
    split at hop
    · rename_i hk; subst hk
      cases hop
      rw [run_append_in hu hsz hu2 hd2 none 0 0 y 0 hlen nw hnw (by omega)]
      exact ⟨_, w, cx, rfl, .ns, R, .refl _ _ _, .rfl⟩
    · rename_i hk
      split at hop
      · cases hop
      · rename_i hroom
        have hroom' : room (0 + k) by_ = true := by rw [Nat.zero_add]; simpa using hroom
        obtain ⟨cap, rest, hrun, hcap, hrest⟩ := run_append_new (ty := ty) hu hsz hby hz hzl hu2 hd2 none 0 0 y k hlen #[] nw' rfl hnw' (by omega) hroom'
        rw [hrun]
        have ro : Row cx w.heap s.L [] #[] := ⟨rfl, fun j hj => by simp at hj, fun j hj => by simp at hj⟩
        split at hop
        · cases hop
          obtain ⟨cx', q1, q2, q3⟩ := app_pure_new (el := el) (len := 0) (xs := []) R hag ro rn' rfl (by simp) rfl hnl hcap hrest
          simp only [Nat.zero_add, List.nil_append] at q1 q2 q3 ⊢
          exact ⟨_, _, cx', rfl, q1, q2, q3, ⟨rfl, rfl⟩⟩
        · cases hop
          obtain ⟨cx', q1, q2, q3⟩ := app_heap_new (el := el) (len := 0) R ro rn' (by simp) hnl hcap hrest
          simp only [Nat.zero_add, List.nil_append] at q1 q2 q3 ⊢
          exact ⟨_, _, cx', rfl, q1, q2, q3, ⟨rfl, rfl⟩⟩
  · -- never written
    rename_i z' xs c
    split at hop
    · cases hop
    rename_i hz'
    have hz' : z' = sz := by simpa using hz'
    subst hz'
    have hxs : srcOf s z' (.pu z' xs c) = some (xs.length, (xs.map V.cells).flatten) := by simp [srcOf]
    obtain ⟨base, cap0, rfl⟩ := slice_shape R hx hxs (by simp)
    split at hop
    · rename_i hk; subst hk
      cases hop
      have hn0 : nw = #[] := by
        have : new = [] := by simpa using hnl
        subst this; exact row_nil rn
      subst hn0
      have hle : xs.length ≤ cap0 := by
        obtain ⟨-, h1 | ⟨a', cap', g, h1, -, h2, -⟩⟩ := hx.pu_flat'
        · obtain ⟨rfl, h2, -⟩ := h1; simp
        · cases h1; exact h2
      rw [run_append_in hu hsz hu2 hd2 base xs.length cap0 y 0 hlen #[] hnw hle]
      cases base with
      | none => exact ⟨_, w, cx, rfl, hx, R, .refl _ _ _, .rfl⟩
      | some ad => exact ⟨_, w, cx, rfl, hx, R, .refl _ _ _, .rfl⟩
    · rename_i hk
      split at hop
      · cases hop
      rename_i hroom
      have hroom' : room (xs.length + k) by_ = true := by simpa using hroom
      obtain ⟨-, -, hold⟩ := r_src (P := P) (w := { w with drawn := w.drawn + 1 }) R hx hxs
      obtain ⟨old, hold1, ro⟩ := hold xs.length (Nat.le_refl _)
      obtain ⟨hs, hshape⟩ := hx.pu_flat'
      have hfl := flat_len xs hs
      rw [← hfl, List.take_length] at ro
      split at hop
      · cases hop
      · cases hop
      · rename_i c
        split at hop
        · rename_i hc; subst hc
          cases hop
          have hcap0 : cap0 = xs.length := by
            rcases hshape with ⟨rfl, h2, h3⟩ | ⟨a', cap', g, h1, -, h2, -, -, -, -, h3, -⟩
            · cases h2; rfl
            · cases h1; exact h3
          subst hcap0
          obtain ⟨cap, rest, hrun, hcap, hrest⟩ := run_append_new (ty := ty) hu hsz hby hz hzl hu2 hd2 base xs.length xs.length y k hlen old nw' hold1 hnw' (by omega) hroom'
          rw [hrun]
          obtain ⟨cx', q1, q2, q3⟩ := app_pure_new (el := el) R hag ro rn' rfl hs rfl hnl hcap hrest
          exact ⟨_, _, cx', rfl, q1, q2, q3, ⟨rfl, rfl⟩⟩
        · cases hop
      · rename_i tk
        split at hop
        · rename_i e0 hg
          split at hop
          · rename_i he0; subst he0
            cases hop
            rcases hshape with ⟨rfl, h2, h3⟩ | ⟨ad, cap', g, h1, -, h2, one, hzz, hc, hv, hr, hp⟩
            · exact h3.elim
            · cases h1
              have hsp := hp tk rfl
              obtain ⟨bb, bo, bs⟩ := ad
              simp only at hsp hzz hc hr; subst hsp
              obtain ⟨arr, el0, lo, hi, a1, a2, ⟨a3, a4⟩, a5⟩ := R.obj tk _ hg
              obtain ⟨hk1, hk2, hk3, hk4⟩ := hr
              obtain ⟨rfl, rfl, hk5⟩ := hk3 a2.symm
              by_cases hin : xs.length + k ≤ cap0
              · -- in place
                obtain ⟨k1, k2⟩ := chunks_flat ag z' hag k new hnl (fun _ => row_one_cells rn)
                rw [run_append_in hu hsz hu2 hd2 _ xs.length cap0 y k hlen nw hnw hin]
                have hmul : (xs.length + k) * z' ≤ cap0 * z' := Nat.mul_le_mul_right z' hin
                have hmul2 : (xs.length + k) * z' = xs.length * z' + k * z' := Nat.add_mul _ _ _
                have hnwl : nw.toList.length = k * z' := by simp [rn.len, hnl]
                have hkz : 0 < k * z' := Nat.mul_pos (by omega) h0
                obtain ⟨w', e1, e2, eq⟩ := r_storeCells (P := P) (cx.tk tk).b ((cx.tk tk).d + xs.length * z') el0 lo hi nw.toList 0 arr w a1 (by rw [hnwl]; omega)
                  (fun j hj hj' => a5 j (by omega) (by rw [hnwl] at hj'; omega)) (mem_toList_one fun j hj => rn.one j (by rw [← rn.len]; exact hj))
                rw [Nat.add_zero] at e2
                have hpg := fun j => putAt_get nw.toList arr ((cx.tk tk).d + xs.length * z') j (by rw [hnwl]; omega)
                simp only [hnwl] at hpg
                obtain ⟨cx', c1, c2, c3, c4⟩ := R.tokGrow hg arr (putAt arr ((cx.tk tk).d + xs.length * z') nw.toList) el0 lo hi a1 (putAt_size _ _ _)
                  (fun j hj => by rw [hpg, if_neg (by omega)]) ((xs.length + k) * z') (by omega) (by omega) _ e2
                simp only [add_none, e1, Result.andThen_ok]
                refine ⟨_, w', cx', rfl, ?_, c3, c4, eq⟩
                have hl : (xs ++ chunks ag z' new k).length = xs.length + k := by rw [List.length_append, chunks_len]
                have hbl : (cx.tk tk).b < w.heap.size := by have := R.own_lt ⟨tk, _, hg, rfl⟩; simpa [blk] using this
                have hcell : ∀ j, cellAt w'.heap (cx.tk tk).b j = (putAt arr ((cx.tk tk).d + xs.length * z') nw.toList)[j]? := fun j => by
                  rw [e2]; simp [cellAt, hbl]
                have hgd : ∀ j, j < (xs.length + k) * z' → (putAt arr ((cx.tk tk).d + xs.length * z') nw.toList)[(cx.tk tk).d + j]? = some (if j < xs.length * z' then g j else nw.getD (j - xs.length * z') undef) := fun j hj => by
                  rw [hpg]
                  by_cases hj1 : j < xs.length * z'
                  · rw [if_neg (by omega), if_pos hj1, ← cellAt_of a1, hc j hj1]
                  · rw [if_pos (by omega), if_neg hj1, show (cx.tk tk).d + j - ((cx.tk tk).d + xs.length * z') = j - xs.length * z' by omega]
                    have : j - xs.length * z' < nw.size := by rw [rn.len, hnl]; omega
                    simp [Array.getD_eq_getD_getElem?, this]
                have hvr : VRep cx' w'.heap s.L (.pu z' (xs ++ chunks ag z' new k) (.t tk)) (.slice (some ⟨(cx.tk tk).b, (cx.tk tk).d, none⟩) (xs ++ chunks ag z' new k).length cap0) := by
                  refine VRep.pu_flat (fun j => if j < xs.length * z' then g j else nw.getD (j - xs.length * z') undef) (fun x hx => ?_) (fun j hj => ?_) (fun j hj => ?_) (fun j hj => ?_) (fun j hj => ?_) (by rw [hl]; exact hin) ?_
                  · rcases List.mem_append.1 hx with h | h
                    · exact hs x h
                    · exact k2 x h
                  · rw [hl] at hj
                    by_cases hj1 : j < xs.length * z'
                    · simp only [hj1, if_true]; exact one j hj1
                    · simp only [hj1, if_false]; exact rn.one _ (by rw [hnl]; omega)
                  · rw [hl] at hj
                    by_cases hj1 : j < xs.length * z'
                    · exact c4.later.fz _ _ (hzz j hj1)
                    · exact c2 _ (by omega) (by omega)
                  · rw [hl] at hj
                    rw [hcell]; exact hgd j hj
                  · rw [hl] at hj
                    rw [flat_app k1]
                    by_cases hj1 : j < xs.length * z'
                    · simp only [hj1, if_true]
                      have : ((xs.map V.cells).flatten ++ new).getD j .bad = ((xs.map V.cells).flatten).getD j .bad := by
                        simp only [List.getD]; rw [List.getElem?_append_left (by rw [hfl]; exact hj1)]
                      rw [this]; exact (hv j hj1).later c4.later
                    · simp only [hj1, if_false]
                      have : ((xs.map V.cells).flatten ++ new).getD j .bad = new.getD (j - xs.length * z') .bad := by
                        simp only [List.getD]; rw [List.getElem?_append_right (by rw [hfl]; omega), hfl]
                      rw [this]; exact (rn.rep _ (by rw [hnl]; omega)).later c4.later
                  · rw [hl]
                    refine ⟨hk1, by rw [c1]; exact Nat.le_refl _, fun _ => by rw [c1]; exact ⟨rfl, rfl, hk5⟩, hin⟩
                rwa [hl] at hvr
              · -- in a new block
                obtain ⟨cap, rest, hrun, hcap, hrest⟩ := run_append_new (ty := ty) hu hsz hby hz hzl hu2 hd2 (some ⟨(cx.tk tk).b, (cx.tk tk).d, none⟩) xs.length cap0 y k hlen old nw' hold1 hnw' (by omega) hroom'
                rw [hrun]
                obtain ⟨k1, k2⟩ := chunks_flat ag z' hag k new hnl (fun _ => row_one_cells rn)
                have r := seg_append ro rn'
                have hall : ∀ x ∈ xs ++ chunks ag z' new k, x.cells.length = z' := fun x hx => by
                  rcases List.mem_append.1 hx with h | h
                  · exact hs x h
                  · exact k2 x h
                have hmul2 : (xs.length + k) * z' = xs.length * z' + k * z' := Nat.add_mul _ _ _
                have hkz : 0 < k * z' := Nat.mul_pos (by omega) h0
                have hsize : (old ++ nw').size = (xs.length + k) * z' := by rw [r.len, List.length_append, hfl, hnl, hmul2]
                obtain ⟨cx', c1, c2, c3, c4⟩ := R.tokMove hg (old ++ nw' ++ rest) el ((xs.length + k) * z') (by rw [Array.size_append, hsize]; omega) (by omega)
                have r' := r.later c4.later
                rw [← flat_app k1] at r'
                have hl : (xs ++ chunks ag z' new k).length = xs.length + k := by rw [List.length_append, chunks_len]
                refine ⟨_, _, cx', rfl, ?_, c3, c4, ⟨rfl, rfl⟩⟩
                have := tok_new_rep (k := tk) (m := s.L) r' hall (cap := cap) (by rw [hl]; exact hcap) (by rw [hl]; exact hrest) hk1 (by rw [c1, hl]) (fun j hj => c2 j (by rwa [hl] at hj))
                rwa [hl] at this
          · cases hop
        · cases hop
  · -- none yet, at an object's end
    rename_i z' l
    split at hop
    case h_2 => cases hop
    rename_i cs zf ty0 hg
    split at hop
    · cases hop
    rename_i hz'
    have hz' : z' = sz := by simpa using hz'
    subst hz'
    split at hop
    · rename_i hk; subst hk
      cases hop
      have hn0 : nw = #[] := by
        have : new = [] := by simpa using hnl
        subst this; exact row_nil rn
      subst hn0
      have hx' := hx
      cases hx
      rename_i ad cap hl hc
      rw [run_append_in hu hsz hu2 hd2 (some ad) 0 cap y 0 hlen #[] hnw (by omega)]
      exact ⟨_, w, cx, rfl, hx', R, .refl _ _ _, .rfl⟩
    rename_i hk
    split at hop
    · cases hop
    rename_i hroom
    have hroom' : room (0 + k) by_ = true := by rw [Nat.zero_add]; simpa using hroom
    split at hop
    · rename_i hzf
      cases hop
      cases hx
      rename_i ad cap0 hl hcse
      obtain ⟨arr, el0, lo, hi, a1, ⟨a2, a2k, a2z, a2t⟩, a3, a4, a5⟩ := R.obj l _ hg
      have hkz : 0 < k * z' := Nat.mul_pos (by omega) h0
      by_cases hle : 0 + k ≤ cap0
      · obtain ⟨rfl, hroomb⟩ : ad = ⟨(cx.r l).b, (cx.r l).d + (cx.r l).k, none⟩ ∧ _ := hcse.resolve_left (by omega)
        rw [run_append_in hu hsz hu2 hd2 _ 0 cap0 y k hlen nw hnw hle]
        have hmul : (0 + k) * z' ≤ cap0 * z' := Nat.mul_le_mul_right z' hle
        rw [Nat.zero_add] at hmul
        have hnwl : nw.toList.length = k * z' := by simp [rn.len, hnl]
        obtain ⟨w', e1, e2, eq⟩ := r_storeCells (P := P) (cx.r l).b ((cx.r l).d + (cx.r l).k + 0 * z') el0 lo hi nw.toList 0 arr w a1 (by rw [hnwl]; omega)
          (fun j hj hj' => a5 j (by omega) (by rw [hnwl] at hj'; omega)) (mem_toList_one fun j hj => rn.one j (by rw [← rn.len]; exact hj))
        rw [Nat.add_zero] at e2
        have hpg := fun j => putAt_get nw.toList arr ((cx.r l).d + (cx.r l).k + 0 * z') j (by rw [hnwl]; omega)
        simp only [hnwl] at hpg
        obtain ⟨cx', c1, c2, c3⟩ := R.regrow hg (cx.r l).k new 0 none (fun T hT => by cases hT) (putAt arr ((cx.r l).d + (cx.r l).k + 0 * z') nw.toList) el0 lo hi ⟨_, _, a1⟩ (fun T hT => by cases hT)
          (by rw [putAt_size, hnl]; omega) (by rw [putAt_size]; exact a2z)
          (fun j hj => by
            rw [hnl] at hj
            have h2 := hpg ((cx.r l).d + (cx.r l).k + j)
            rw [if_pos (by omega), show (cx.r l).d + (cx.r l).k + j - ((cx.r l).d + (cx.r l).k + 0 * z') = j by omega] at h2
            rw [show (putAt arr ((cx.r l).d + (cx.r l).k + 0 * z') nw.toList).getD ((cx.r l).d + (cx.r l).k + j) undef = nw.getD j undef by rw [Array.getD_eq_getD_getElem?, Array.getD_eq_getD_getElem?, h2]; simp]
            exact rn.one _ (by omega))
          (fun j hj => by
            rw [hnl] at hj
            have h2 := hpg ((cx.r l).d + (cx.r l).k + j)
            rw [if_pos (by omega), show (cx.r l).d + (cx.r l).k + j - ((cx.r l).d + (cx.r l).k + 0 * z') = j by omega] at h2
            rw [show (putAt arr ((cx.r l).d + (cx.r l).k + 0 * z') nw.toList).getD ((cx.r l).d + (cx.r l).k + j) undef = nw.getD j undef by rw [Array.getD_eq_getD_getElem?, Array.getD_eq_getD_getElem?, h2]; simp]
            exact rn.rep _ (by omega))
          (fun j hj hj' => a5 j (by omega) (by rwa [putAt_size] at hj')) _ e2
        simp only [add_none, e1, Result.andThen_ok]
        refine ⟨_, w', cx', rfl, ?_, c2, c3, eq⟩
        have : VRep cx' w'.heap ((s.put l none).new (.c new 0 none)).L (.sl z' s.n 0 k none) (.slice (some ⟨(cx'.r s.n).b, (cx'.r s.n).d + 0, none⟩) k cap0) :=
          .sl z' s.n 0 k none cap0 (St.new_L0 (s := s.put l none) _ R.gl) (by omega) ⟨by rw [c1]; simp only [hnl]; omega, by rw [c1]; simp only; omega⟩
        rw [c1] at this
        simpa using this
      · obtain ⟨cap, rest, hrun, hcap, hrest⟩ := run_append_new (ty := ty) hu hsz hby hz hzl hu2 hd2 (some ad) 0 cap0 y k hlen #[] nw' (by simp only [Builtin.firstCells, Nat.zero_mul]; rfl) hnw' (by omega) hroom'
        rw [hrun]
        have hsub : Sub (s.put l none) s := ⟨⟨rfl, rfl⟩, fun l' o' h' => by
          by_cases hll : l' = l
          · subst hll; simp at h'
          · rwa [St.get_put_ne _ _ _ _ hll] at h'⟩
        have R' := R.sub hsub
        have ro : Row cx w.heap s.L [] #[] := ⟨rfl, fun j hj => by simp at hj, fun j hj => by simp at hj⟩
        obtain ⟨cx', q1, q2, q3⟩ := app_heap_new (s := s.put l none) (el := el) (len := 0) R' ro rn' (by simp) hnl hcap hrest
        simp only [Nat.zero_add, List.nil_append] at q1 q2 q3 ⊢
        refine ⟨_, _, cx', rfl, q1, Rel.untype (R'.gl) q2, ?_, ⟨rfl, rfl⟩⟩
        exact (Ext.untype q3).from_sub hsub
    · cases hop
  · -- an object
    rename_i z' l o n c
    split at hop
    case h_2 => cases hop
    rename_i cs zf ty0 hg
    split at hop
    · cases hop
    rename_i hz'
    have hz' : z' = sz := by simpa using hz'
    subst hz'
    split at hop
    · rename_i hk; subst hk
      cases hop
      have hn0 : nw = #[] := by
        have : new = [] := by simpa using hnl
        subst this; exact row_nil rn
      subst hn0
      have hx' := hx
      cases hx
      rename_i cap hl hk' hc
      rw [run_append_in hu hsz hu2 hd2 _ n cap y 0 hlen #[] hnw (by omega)]
      exact ⟨_, w, cx, rfl, hx', R, .refl _ _ _, .rfl⟩
    rename_i hk
    split at hop
    · cases hop
    rename_i hroom
    have hroom' : room (n + k) by_ = true := by simpa using hroom
    split at hop
    · cases hop
    rename_i hcs
    have hcs : o + n * z' ≤ cs.length := by omega
    have hxs : srcOf s z' (.sl z' l o n c) = some (n, (cs.drop o).take (n * z')) := by simp [srcOf, hg, hcs]
    obtain ⟨-, hol, hold⟩ := r_src (P := P) (w := { w with drawn := w.drawn + 1 }) R hx hxs
    obtain ⟨old, hold1, ro⟩ := hold n (Nat.le_refl _)
    rw [List.take_of_length_le (by rw [hol]; exact Nat.le_refl _)] at ro
    have hmul2 : (n + k) * z' = n * z' + k * z' := Nat.add_mul _ _ _
    cases hx
    rename_i cap0 hl hk' hc
    split at hop
    · -- its capacity is known
      rename_i c
      obtain ⟨rfl, hc2⟩ := hc
      split at hop
      · rename_i hle
        split at hop
        · rename_i hin
          cases hop
          rw [run_append_in hu hsz hu2 hd2 _ n cap0 y k hlen nw hnw hle]
          obtain ⟨w', e1, e2, e3, eq⟩ := obj_store (P := P) R hg rn (o := o + n * z') (by omega) (.inr hin.2)
          simp only [add_none, Nat.add_assoc, e1, Result.andThen_ok]
          exact ⟨_, w', cx, rfl, .sl z' l o (n + k) (some cap0) cap0 hl hle ⟨rfl, hc2⟩, e2, e3, eq⟩
        · cases hop
      · rename_i hle
        cases hop
        obtain ⟨cap, rest, hrun, hcap, hrest⟩ := run_append_new (ty := ty) hu hsz hby hz hzl hu2 hd2 _ n cap0 y k hlen old nw' hold1 hnw' (by omega) hroom'
        rw [hrun]
        obtain ⟨cx', q1, q2, q3⟩ := app_heap_new (el := el) R ro rn' hol hnl hcap hrest
        exact ⟨_, _, cx', rfl, q1, q2, q3, ⟨rfl, rfl⟩⟩
    · -- it is not
      obtain ⟨hc1, hc2⟩ := hc
      obtain ⟨arr, el0, lo, hi, a1, ⟨a2, a2k, a2z, a2t⟩, a3, a4, a5⟩ := R.obj l _ hg
      split at hop
      · rename_i hin
        split at hop
        · rename_i hzf
          cases hop
          have hle : n + k ≤ cap0 := by
            have h1 : o + (n + k) * z' ≤ o + cap0 * z' := by rw [a2k] at hin; omega
            exact Nat.le_of_mul_le_mul_right (by omega) h0
          rw [run_append_in hu hsz hu2 hd2 _ n cap0 y k hlen nw hnw hle]
          obtain ⟨w', e1, e2, e3, eq⟩ := obj_store (P := P) R hg rn (o := o + n * z') (by omega) (.inr hzf)
          simp only [add_none, Nat.add_assoc, e1, Result.andThen_ok]
          exact ⟨_, w', cx, rfl, .sl z' l o (n + k) none cap0 hl hle ⟨hc1, hc2⟩, e2, e3, eq⟩
        · cases hop
      · rename_i hin
        split at hop
        · rename_i hzf
          cases hop
          by_cases hle : n + k ≤ cap0
          · rw [run_append_in hu hsz hu2 hd2 _ n cap0 y k hlen nw hnw hle]
            have hmul : (n + k) * z' ≤ cap0 * z' := Nat.mul_le_mul_right z' hle
            have hnwl : nw.toList.length = k * z' := by simp [rn.len, hnl]
            obtain ⟨w', e1, e2, eq⟩ := r_storeCells (P := P) (cx.r l).b ((cx.r l).d + o + n * z') el0 lo hi nw.toList 0 arr w a1 (by rw [hnwl]; omega)
              (fun j hj hj' => a5 j (by omega) (by rw [hnwl] at hj'; omega)) (mem_toList_one fun j hj => rn.one j (by rw [← rn.len]; exact hj))
            rw [Nat.add_zero] at e2
            have hpg := fun j => putAt_get nw.toList arr ((cx.r l).d + o + n * z') j (by rw [hnwl]; omega)
            simp only [hnwl] at hpg
            have hseg := seg_len hcs
            have key : ∀ j, j < ((cs.drop o).take (n * z') ++ new).length → (((cs.drop o).take (n * z') ++ new).getD j .bad = if j < n * z' then cs.getD (o + j) .bad else new.getD (j - n * z') .bad) ∧
                ((putAt arr ((cx.r l).d + o + n * z') nw.toList).getD ((cx.r l).d + o + j) undef = if j < n * z' then arr.getD ((cx.r l).d + (o + j)) undef else nw.getD (j - n * z') undef) := fun j hj => by
              rw [List.length_append, hseg, hnl] at hj
              have h2 := hpg ((cx.r l).d + o + j)
              by_cases hj1 : j < n * z'
              · rw [if_pos hj1, if_pos hj1]
                rw [if_neg (by omega)] at h2
                refine ⟨?_, by rw [← Nat.add_assoc]; exact arrGetD_eq h2⟩
                rw [← list_seg hcs hj1]
                simp only [List.getD]; rw [List.getElem?_append_left (by omega)]
              · rw [if_neg hj1, if_neg hj1]
                rw [if_pos (by omega), show (cx.r l).d + o + j - ((cx.r l).d + o + n * z') = j - n * z' by omega] at h2
                refine ⟨?_, by simp [Array.getD_eq_getD_getElem?, h2]⟩
                simp only [List.getD]; rw [List.getElem?_append_right (by omega), hseg]
            obtain ⟨cx', c1, c2, c3⟩ := R.regrow hg o ((cs.drop o).take (n * z') ++ new) (zf - o) (if o = 0 ∧ ty0 = some el then some el else none) (fun T hT => by
                split at hT
                · rename_i h; cases hT; exact ⟨h.2, h.1⟩
                · cases hT) (putAt arr ((cx.r l).d + o + n * z') nw.toList) el0 lo hi ⟨_, _, a1⟩ (fun T hT => by
                split at hT
                · rename_i h; have := (a2t el h.2).2.2; omega
                · cases hT)
              (by rw [putAt_size, List.length_append, hseg, hnl]; omega) (by rw [putAt_size]; exact a2z)
              (fun j hj => by
                rw [(key j hj).2]; rw [List.length_append, hseg, hnl] at hj; split
                · exact a3 _ (by omega)
                · exact rn.one _ (by omega))
              (fun j hj => by
                rw [(key j hj).1, (key j hj).2]; rw [List.length_append, hseg, hnl] at hj; split
                · exact a4 _ (by omega)
                · exact rn.rep _ (by omega))
              (fun j hj hj' => a5 j (by omega) (by rwa [putAt_size] at hj')) _ e2
            simp only [add_none, e1, Result.andThen_ok]
            refine ⟨_, w', cx', rfl, ?_, c2, c3, eq⟩
            have : VRep cx' w'.heap ((s.put l none).new (.c ((cs.drop o).take (n * z') ++ new) (zf - o) (if o = 0 ∧ ty0 = some el then some el else none))).L (.sl z' s.n 0 (n + k) none) (.slice (some ⟨(cx'.r s.n).b, (cx'.r s.n).d + 0, none⟩) (n + k) cap0) :=
              .sl z' s.n 0 (n + k) none cap0 (St.new_L0 (s := s.put l none) _ R.gl) hle ⟨by rw [c1]; simp only [List.length_append, hseg, hnl]; omega, by rw [c1]; simp only; omega⟩
            rw [c1] at this
            simpa using this
          · obtain ⟨cap, rest, hrun, hcap, hrest⟩ := run_append_new (ty := ty) hu hsz hby hz hzl hu2 hd2 _ n cap0 y k hlen old nw' hold1 hnw' (by omega) hroom'
            rw [hrun]
            have hsub : Sub (s.put l none) s := ⟨⟨rfl, rfl⟩, fun l' o' h' => by
              by_cases hll : l' = l
              · subst hll; simp at h'
              · rwa [St.get_put_ne _ _ _ _ hll] at h'⟩
            have R' := R.sub hsub
            obtain ⟨cx', q1, q2, q3⟩ := app_heap_new (s := s.put l none) (el := el) R' ro rn' hol hnl hcap hrest
            have hsub2 : Sub ((s.put l none).new (.c ((cs.drop o).take (n * z') ++ new) (zf - o) (if o = 0 ∧ ty0 = some el then some el else none))) ((s.put l none).new (.c ((cs.drop o).take (n * z') ++ new) (zf - o) (if o = 0 ∧ ty0 = some el then some el else none))) := .refl _
            refine ⟨_, _, cx', rfl, q1, ?_, ?_, ⟨rfl, rfl⟩⟩
            · refine ⟨fun l' hl' => ?_, q2.gl, fun l' o' ho' => ?_, fun l1 l2 o1 o2 h1 h2 h3 => ?_, q2.fzl, fun l' cs' z1 ty1 ho' => ?_, fun l' e' ho' => ?_⟩
              · by_cases hll : l' = (s.put l none).n
                · subst hll; exact (hl' (St.new_L0 (s := s.put l none) _ R.gl)).elim
                · have := q2.wf l' hl'; rwa [St.get_new_ne _ _ _ hll] at this ⊢
              · by_cases hll : l' = (s.put l none).n
                · subst hll
                  rw [St.get_new_same] at ho'; cases ho'
                  obtain ⟨b1, b2, b3, b4, b5, b6, b7, b8, b9⟩ := q2.obj (s.put l none).n _ (by rw [St.get_new_same])
                  exact ⟨b1, b2, b3, b4, b5, ⟨b6.1, b6.2.1, b6.2.2.1, fun T hT => by
                    split at hT
                    · cases hT; have := b6.2.2.2 _ rfl; exact ⟨this.1, this.2.1, by omega⟩
                    · cases hT⟩, b7, b8, fun j hj hj' => b9 j (by omega) hj'⟩
                · rw [St.get_new_ne _ _ _ hll] at ho'
                  exact q2.obj l' o' (by rwa [St.get_new_ne _ _ _ hll])
              · have conv : ∀ l' o', ((s.put l none).new (.c ((cs.drop o).take (n * z') ++ new) (zf - o) (if o = 0 ∧ ty0 = some el then some el else none))).get l' = some o' → ∃ o'', ((s.put l none).new (.c ((cs.drop o).take (n * z') ++ new) 0 (some el))).get l' = some o'' ∧ blk cx' l' o'' = blk cx' l' o' := fun l' o' h' => by
                  by_cases hll : l' = (s.put l none).n
                  · subst hll; rw [St.get_new_same] at h' ⊢; cases h'; exact ⟨_, rfl, rfl⟩
                  · rw [St.get_new_ne _ _ _ hll] at h' ⊢; exact ⟨o', h', rfl⟩
                obtain ⟨p1, p2, p3⟩ := conv l1 o1 h1
                obtain ⟨p4, p5, p6⟩ := conv l2 o2 h2
                rw [← p3, ← p6]; exact q2.inj l1 l2 p1 p4 p2 p5 h3
              · by_cases hll : l' = (s.put l none).n
                · subst hll; exact q2.fzo (s.put l none).n _ 0 _ (by rw [St.get_new_same])
                · rw [St.get_new_ne _ _ _ hll] at ho'; exact q2.fzo l' cs' z1 ty1 (by rwa [St.get_new_ne _ _ _ hll])
              · by_cases hll : l' = (s.put l none).n
                · subst hll; rw [St.get_new_same] at ho'; cases ho'
                · rw [St.get_new_ne _ _ _ hll] at ho'; exact q2.fzt l' e' (by rwa [St.get_new_ne _ _ _ hll])
            · have E1 : Ext cx s w.heap cx (s.put l none) w.heap := (Ext.refl cx s w.heap).sub hsub
              have E2 := E1.trans q3
              refine ⟨E2.later, E2.size, E2.frame, fun bb hbb => E2.own bb ?_, E2.nfz⟩
              obtain ⟨l', o', h1, h2⟩ := hbb
              by_cases hll : l' = (s.put l none).n
              · subst hll; rw [St.get_new_same] at h1; cases h1
                exact ⟨_, _, St.get_new_same _ _, h2⟩
              · exact ⟨l', o', by rwa [St.get_new_ne _ _ _ hll] at h1 ⊢, h2⟩
        · cases hop
  · cases hop

end
end Rf
