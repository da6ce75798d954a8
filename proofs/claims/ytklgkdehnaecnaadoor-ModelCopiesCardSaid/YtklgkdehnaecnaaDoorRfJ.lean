/-
  copy, make, slice expressions, bytes and strings.
-/
import Derived.Test.YtklgkdehnaecnaaDoorRfI
set_option linter.all false
set_option linter.unusedSimpArgs false
namespace Rf
open Go

section
variable {P : Program} {w : World} {cx : Cx} {s : St} {e : List V} {act : Act}

theorem sim_cpy (R : Rel cx s w.heap) {t t2 el ty : TypeId} {sz : Nat} (hu : P.underlying t = some (.slice el)) (hsz : szP P el = some sz) {a b : Arg} {x y : Value} (hx : VRep cx w.heap s.L (a.ev e) x) (hy : VRep cx w.heap s.L (b.ev e) y)
    {v : V} {s' : St} (hop : aop e s (.cpy sz a b) = some (v, s')) : Ok ((Builtin.copy_ #[t, t2] ty #[x, y]).run P w) cx s w v s' := by
  simp only [aop] at hop
  split at hop
  · rename_i kn hea hsrc
    obtain ⟨k, new⟩ := kn
    rw [hea] at hx; cases hop; cases hx
    obtain ⟨hlen, hnl, hrow⟩ := r_src (P := P) R hy hsrc
    obtain ⟨nw, hnw, rn⟩ := hrow 0 (by omega)
    refine ⟨_, w, cx, ?_, .i .i64 0, R, .refl _ _ _, .rfl⟩
    simp only [Builtin.copy_, List.getElem?_toArray, List.getElem?_cons_zero, List.getElem?_cons_succ, Sem.run_bind, r_und w hu, hlen, Result.andThen_ok, r_size w hsz, Nat.min_zero, hnw, Sem.run_pure, goInt]
    rfl
  · rename_i z l o n c k new hea hsrc
    rw [hea] at hx
    split at hop
    · rename_i cs zf ty0 hg
      split at hop
      · rename_i hc
        obtain ⟨rfl, hle, hzf⟩ := hc
        cases hop; cases hx
        rename_i cap hl hk hc'
        obtain ⟨hlen, hnl, hrow⟩ := r_src (P := P) R hy hsrc
        obtain ⟨nw, hnw, rn⟩ := hrow (min k n) (Nat.min_le_left _ _)
        have hm1 : min k n * z ≤ n * z := Nat.mul_le_mul_right z (Nat.min_le_right _ _)
        have hm2 : min k n * z ≤ k * z := Nat.mul_le_mul_right z (Nat.min_le_left _ _)
        have hl2 : (new.take (min k n * z)).length = min k n * z := by rw [List.length_take, hnl]; omega
        obtain ⟨w', e1, e2, e3⟩ := obj_store (P := P) R hg rn (o := o) (by rw [hl2]; omega) (.inr hzf)
        refine ⟨_, w', cx, ?_, .i .i64 _, e2, e3⟩
        simp only [Builtin.copy_, List.getElem?_toArray, List.getElem?_cons_zero, List.getElem?_cons_succ, Sem.run_bind, r_und w hu, hlen, Result.andThen_ok, r_size w hsz, hnw, e1, Sem.run_pure, goInt]
      · cases hop
    · cases hop
  · cases hop

theorem wrap64_id {n : Int} (h0 : 0 ≤ n) (h1 : n < 9223372036854775808) : IntKind.i64.wrap n = n := by
  have e1 : n % (2 ^ IntKind.i64.bits : Int) = n := Int.emod_eq_of_lt h0 (by simp [IntKind.bits]; omega)
  unfold IntKind.wrap
  simp only [e1]
  rw [if_neg]
  simp [IntKind.bits, IntKind.signed]; omega

theorem sim_mks (R : Rel cx s w.heap) {t el : TypeId} {sz by_ : Nat} {z : List V} (hu : P.underlying t = some (.slice el)) (hsz : szP P el = some sz) (hby : byP P el = some by_) (hz : zeroP P el = some z) (h0 : 0 < sz) (hzl : z.length = sz)
    {a b : Arg} {x y : Value} (hx : VRep cx w.heap s.L (a.ev e) x) (hy : VRep cx w.heap s.L (b.ev e) y)
    {v : V} {s' : St} (hop : aop e s (.mks el sz by_ z a b) = some (v, s')) : Ok ((Instr.makeSlice t x y).run P w) cx s w v s' := by
  simp only [aop] at hop
  split at hop
  · rename_i k1 n k2 c hea heb
    rw [hea] at hx; rw [heb] at hy
    split at hop
    · rename_i hc
      obtain ⟨c1, c2, c3, c4⟩ := hc
      cases hop; cases hx; cases hy
      obtain ⟨i, hi1, hi2⟩ := r_bytes (P := P) w hby
      obtain ⟨zv, z1, z2, z3, z4⟩ := r_zero (P := P) w hz
      have r0 : Row cx w.heap s.L z zv.cells := ⟨z2, z3, fun j hj => z4 cx w.heap s.L j hj⟩
      have wn := wrap64_id c1 (by omega)
      have wc := wrap64_id (by omega : 0 ≤ c) c4
      have r1 := zero_row (by omega) r0 c.toNat
      rw [hzl] at r1
      have hb1 : ¬ (i.bytes * c > 2 ^ 48) := by rw [hi2, Int.mul_comm]; omega
      obtain ⟨cx', q1, q2, q3⟩ := R.new _ _ el (some el) (fun _ h => by cases h; rfl) (by rw [r1.len]; exact Nat.le_refl _) r1.one r1.rep
      have hrun : (Instr.makeSlice t (.int k1 n) (.int k2 c)).run P w = .ok (.slice (some ⟨w.heap.size, 0, none⟩) n.toNat c.toNat) { w with heap := w.heap.push (.cells ((Array.range (c.toNat * sz)).map (zv.cells[· % zv.cells.size]!)) el) } := by
        have hcond : (decide (c < 0) || decide (↑i.bytes * c > 2 ^ 48) || decide (n < 0) || decide (n > c)) = false := by
          simp only [Bool.or_eq_false_iff, decide_eq_false_iff_not]
          exact ⟨⟨⟨by omega, hb1⟩, by omega⟩, by omega⟩
        have hcond' : ¬ (((c < 0 ∨ ↑i.bytes * c > 2 ^ 48) ∨ n < 0) ∨ n > c) := by omega
        by_cases h : c.toNat * sz = 0
        · have harr : (Array.range (c.toNat * sz)).map ((#[] : Array Value)[· % (#[] : Array Value).size]!) = (Array.range (c.toNat * sz)).map (zv.cells[· % zv.cells.size]!) := by simp [h]
          simp only [Instr.makeSlice, Sem.run_bind, r_und w hu, Result.andThen_ok, asInt, asIntOf, Sem.run_pure, hi1, wn, wc, Bool.or_eq_true, decide_eq_true_eq, hcond', Sem.run_ite, if_false, run_askRoom, r_size w hsz, h, if_true]
          rw [h] at harr
          rw [harr]
          simp only [newRow_run, Result.andThen_ok, Sem.run_pure]
        · simp only [Instr.makeSlice, Sem.run_bind, r_und w hu, Result.andThen_ok, asInt, asIntOf, Sem.run_pure, hi1, wn, wc, Bool.or_eq_true, decide_eq_true_eq, hcond', Sem.run_ite, if_false, run_askRoom, r_size w hsz, h, z1, newRow_run]
      rw [hrun]
      refine ⟨_, _, cx', rfl, ?_, q2, q3, ⟨rfl, rfl⟩⟩
      have : VRep cx' (w.heap.push (.cells ((Array.range (c.toNat * sz)).map (zv.cells[· % zv.cells.size]!)) el)) (s.new (.c (List.replicate c.toNat z).flatten 0 (some el))).L (.sl sz s.n 0 n.toNat (some c.toNat)) (.slice (some ⟨(cx'.r s.n).b, (cx'.r s.n).d + 0, none⟩) n.toNat c.toNat) :=
        .sl sz s.n 0 n.toNat (some c.toNat) c.toNat (St.new_L0 _ R.gl) (by omega) ⟨rfl, by rw [q1]; simp [rep_flat_len, hzl]⟩
      rw [q1] at this
      simpa using this
    · cases hop
  · cases hop

/-! slice expressions -/
def ORp (cx : Cx) (h : Array Obj) (n : Nat → Prop) : Option V → Option Value → Prop
  | none, none => True
  | some v, some x => VRep cx h n v x
  | _, _ => False

theorem bnd_run {h : Array Obj} {n : Nat → Prop} {top k : Nat} {v : V} {x : Value} (hb : bnd top v = some k) (hv : VRep cx h n v x) (top' : Nat) (ht : top ≤ top') (code : BoundsCode) : (Instr.sliceBound x top' code).run P w = .ok k w ∧ k ≤ top := by
  unfold bnd at hb
  split at hb
  · rename_i kd i
    split at hb
    · rename_i hc
      cases hb; cases hv
      refine ⟨?_, by omega⟩
      simp only [Instr.sliceBound, asIntOf, Sem.run_bind, Sem.run_pure, Result.andThen_ok]
      rw [if_pos (by omega), Sem.run_pure]
    · cases hb
  · cases hb

theorem slb_run {hp : Array Obj} {n : Nat → Prop} {len cap : Nat} {l h m : Option V} {l' h' m' : Option Value} {a b mm : Nat} (hs : slb len cap l h m = some (a, b, mm)) (hl : ORp cx hp n l l') (hh : ORp cx hp n h h') (hm : ORp cx hp n m m') (isS : Bool) (cap' : Nat) (hc : cap ≤ cap') (hlen : len ≤ cap) :
    (Instr.sliceBounds isS len cap' l' h' m').run P w = .ok (a, b, if m.isSome then mm else cap') w ∧ a ≤ b ∧ b ≤ mm ∧ mm ≤ cap ∧ (m = none → mm = cap) := by
  unfold slb at hs
  split at hs
  · cases hs
  · rename_i m1 hm1
    split at hs
    · cases hs
    · rename_i h1 hh1
      split at hs
      · cases hs
      · rename_i l1 hl1
        cases hs
        cases m with
        | none =>
          cases m' with
          | some _ => exact hm.elim
          | none =>
            cases hm1
            cases h with
            | none =>
              cases h' with
              | some _ => exact hh.elim
              | none =>
                cases hh1
                cases l with
                | none =>
                  cases l' with
                  | some _ => exact hl.elim
                  | none => cases hl1; exact ⟨rfl, by omega, by omega, by omega, fun _ => rfl⟩
                | some lv =>
                  cases l' with
                  | none => exact hl.elim
                  | some lx =>
                    obtain ⟨e1, e2⟩ := bnd_run (P := P) (w := w) hl1 hl _ (Nat.le_refl _) .sliceB
                    exact ⟨by simp only [Instr.sliceBounds, Sem.run_bind, Sem.run_pure, Result.andThen_ok, Option.isSome_none, Bool.false_eq_true, if_false, e1], by omega, by omega, by omega, fun _ => rfl⟩
            | some hv =>
              cases h' with
              | none => exact hh.elim
              | some hx =>
                obtain ⟨e3, e4⟩ := bnd_run (P := P) (w := w) hh1 hh cap' hc (if isS then .sliceAcap else .sliceAlen)
                cases l with
                | none =>
                  cases l' with
                  | some _ => exact hl.elim
                  | none => cases hl1; exact ⟨by simp only [Instr.sliceBounds, Sem.run_bind, Sem.run_pure, Result.andThen_ok, Option.isSome_none, Bool.false_eq_true, if_false, e3], by omega, by omega, by omega, fun _ => rfl⟩
                | some lv =>
                  cases l' with
                  | none => exact hl.elim
                  | some lx =>
                    obtain ⟨e1, e2⟩ := bnd_run (P := P) (w := w) hl1 hl _ (Nat.le_refl _) .sliceB
                    exact ⟨by simp only [Instr.sliceBounds, Sem.run_bind, Sem.run_pure, Result.andThen_ok, Option.isSome_none, Bool.false_eq_true, if_false, e1, e3], by omega, by omega, by omega, fun _ => rfl⟩
        | some mv =>
          cases m' with
          | none => exact hm.elim
          | some mx =>
            obtain ⟨e5, e6⟩ := bnd_run (P := P) (w := w) hm1 hm cap' hc (if isS then .slice3Acap else .slice3Alen)
            cases h with
            | none => cases hh1
            | some hv =>
              cases h' with
              | none => exact hh.elim
              | some hx =>
                obtain ⟨e3, e4⟩ := bnd_run (P := P) (w := w) hh1 hh _ (Nat.le_refl _) .slice3B
                cases l with
                | none =>
                  cases l' with
                  | some _ => exact hl.elim
                  | none => cases hl1; exact ⟨by simp only [Instr.sliceBounds, Sem.run_bind, Sem.run_pure, Result.andThen_ok, Option.isSome_some, if_true, e3, e5], by omega, by omega, by omega, fun h => by cases h⟩
                | some lv =>
                  cases l' with
                  | none => exact hl.elim
                  | some lx =>
                    obtain ⟨e1, e2⟩ := bnd_run (P := P) (w := w) hl1 hl _ (Nat.le_refl _) .slice3C
                    exact ⟨by simp only [Instr.sliceBounds, Sem.run_bind, Sem.run_pure, Result.andThen_ok, Option.isSome_some, if_true, e1, e3, e5], by omega, by omega, by omega, fun h => by cases h⟩

theorem ba_extract (l : List UInt8) (a b : Nat) : (⟨l.toArray⟩ : ByteArray).extract a b = ⟨((l.take b).drop a).toArray⟩ := by
  apply ByteArray.ext
  rw [ByteArray.data_extract]
  apply Array.ext'
  simp only [List.extract_toArray, List.extract_eq_drop_take']

theorem sim_slS (R : Rel cx s w.heap) {t : TypeId} (hu : P.underlying t = some .string) {a : Arg} {l h : Option Arg} {x : Value} {l' h' : Option Value} (hx : VRep cx w.heap s.L (a.ev e) x) (hl : ORp cx w.heap s.L (l.map (·.ev e)) l') (hh : ORp cx w.heap s.L (h.map (·.ev e)) h')
    {v : V} {s' : St} (hop : aop e s (.slS a l h) = some (v, s')) : Ok ((Instr.sliceAt t x l' h' none).run P w) cx s w v s' := by
  simp only [aop] at hop
  split at hop
  · rename_i str hea
    rw [hea] at hx
    simp only [Option.map_eq_some_iff] at hop
    obtain ⟨⟨p, q, r⟩, h1, h2⟩ := hop
    cases h2; cases hx
    have hsz : (⟨str.toArray⟩ : ByteArray).size = str.length := by simp [ByteArray.size]
    obtain ⟨e1, -⟩ := slb_run (P := P) (w := w) h1 hl hh (m' := none) trivial false str.length (Nat.le_refl _) (Nat.le_refl _)
    refine ⟨_, w, cx, ?_, .s ((str.take q).drop p), R, .refl _ _ _, .rfl⟩
    simp only [Instr.sliceAt, Instr.slice, Sem.run_bind, r_und w hu, Result.andThen_ok, Option.isSome_none, Bool.false_eq_true, if_false, hsz, Sem.run_pure, e1, ba_extract]
  · cases hop

theorem VRep.pu_nil {h : Array Obj} {n : Nat → Prop} {sz : Nat} {c : Cap} (ad : Addr) (cap : Nat) (hc : match c with | .u => True | .z => True | .x k => cap = k | .t _ => False) : VRep cx h n (.pu sz [] c) (.slice (some ad) 0 cap) := by
  have := VRep.pu (cx := cx) (h := h) (n := n) sz [] c ad cap (fun _ _ => undef) (by simp) (by simp) (by simp) (by simp) (by simp) (by simp) (Nat.zero_le _) (by cases c <;> simp_all [capR]) (by intro k hk; subst hk; exact hc.elim)
  simpa using this

/-- a stretch of a slice that is never written -/
theorem VRep.pu_cut {h : Array Obj} {n : Nat → Prop} {sz : Nat} {xs : List V} {c c' : Cap} {ad : Addr} {cap cap' a b : Nat} (hv : VRep cx h n (.pu sz xs c) (.slice (some ad) xs.length cap)) (ha : a ≤ b) (hb : b ≤ xs.length) (hc : b - a ≤ cap') (hc' : match c' with | .u => True | .z => True | .x k => cap' = k | .t _ => False) :
    VRep cx h n (.pu sz ((xs.take b).drop a) c') (.slice (some (ad.add (a * sz))) (b - a) cap') := by
  have hlen : ((xs.take b).drop a).length = b - a := by simp; omega
  by_cases h0 : b - a = 0
  · have : (xs.take b).drop a = [] := List.length_eq_zero_iff.1 (by omega)
    rw [this, h0]
    exact VRep.pu_nil _ _ hc'
  · have hne : xs ≠ [] := by intro hx; subst hx; simp at hb; omega
    cases hv with
    | pu sz xs c ad cap f hsp h1 hs hz hcell hrep hl hr hp =>
      have hsp := hsp hne
      obtain ⟨bb, bo, bs⟩ := ad
      simp only at hsp; subst hsp
      have hgd : ∀ i, i < b - a → ((xs.take b).drop a).getD i .bad = xs.getD (a + i) .bad := fun i hi => by
        simp only [List.getD, List.getElem?_drop, List.getElem?_take]
        rw [if_pos (by omega)]
      have hmul : ∀ i, bo + a * sz + i * sz = bo + (a + i) * sz := fun i => by rw [Nat.add_mul]; omega
      have := VRep.pu (cx := cx) (h := h) (n := n) sz ((xs.take b).drop a) c' ⟨bb, bo + a * sz, none⟩ cap' (fun i j => f (a + i) j) (fun _ => rfl) (fun i j hi hj => h1 _ _ (by omega) hj)
        (fun i hi => by rw [hlen] at hi; rw [hgd i hi]; exact hs _ (by omega)) (fun i j hi hj => by simp only [hmul]; exact hz _ _ (by omega) hj) (fun i j hi hj => by simp only [hmul]; exact hcell _ _ (by omega) hj)
        (fun i j hi hj => by rw [hlen] at hi; rw [hgd i hi]; exact hrep _ _ (by omega) hj) (by omega) (by cases c' <;> simp_all [capR]) (fun k _ => rfl)
      rw [hlen] at this
      rwa [add_none]

theorem sim_slc (R : Rel cx s w.heap) {t el : TypeId} {sz : Nat} (hu : P.underlying t = some (.slice el)) (hsz : szP P el = some sz) {a : Arg} {l h m : Option Arg} {x : Value} {l' h' m' : Option Value} (hx : VRep cx w.heap s.L (a.ev e) x) (hl : ORp cx w.heap s.L (l.map (·.ev e)) l') (hh : ORp cx w.heap s.L (h.map (·.ev e)) h') (hm : ORp cx w.heap s.L (m.map (·.ev e)) m')
    {v : V} {s' : St} (hop : aop e s (.slc sz a l h m) = some (v, s')) : Ok ((Instr.sliceAt t x l' h' m').run P w) cx s w v s' := by
  have hrun : ∀ base len cap lo hi mx, (Instr.sliceBounds true len cap l' h' m').run P w = .ok (lo, hi, mx) w →
      (Instr.sliceAt t (.slice base len cap) l' h' m').run P w = .ok (.slice (if mx = lo then base else base.map (·.add (lo * sz))) (hi - lo) (mx - lo)) w := fun base len cap lo hi mx hb => by
    simp only [Instr.sliceAt, Instr.slice, Sem.run_bind, r_und w hu, Result.andThen_ok, hb, r_size w hsz, Sem.run_pure]
  simp only [aop] at hop
  split at hop
  · rename_i hea
    rw [hea] at hx; cases hx
    simp only [Option.map_eq_some_iff] at hop
    obtain ⟨⟨p, q, r⟩, h1, h2⟩ := hop
    cases h2
    obtain ⟨e1, e2, e3, e4, e5⟩ := slb_run (P := P) (w := w) h1 hl hh hm true 0 (Nat.le_refl _) (Nat.le_refl _)
    rw [hrun _ _ _ _ _ _ e1]
    have : q - p = 0 := by omega
    have h3 : (if (m.map (·.ev e)).isSome then r else 0) = 0 := by split <;> omega
    rw [this, h3]
    refine ⟨_, w, cx, rfl, ?_, R, .refl _ _ _, .rfl⟩
    have : (if 0 = p then (none : Option Addr) else Option.map (fun ad : Addr => ad.add (p * sz)) none) = none := by split <;> rfl
    rw [this, Nat.zero_sub]; exact .ns
  · rename_i z i o n c hea
    rw [hea] at hx
    split at hop
    · cases hop
    rename_i hz
    have hz : z = sz := by simpa using hz
    subst hz
    split at hop
    case h_2 =>
      split at hop
      · split at hop
        · rename_i cs zf ty0 hg
          split at hop
          · cases hop
          rename_i hz0
          split at hop
          · rename_i p q r hslb
            split at hop
            · rename_i hcond
              cases hop
              obtain ⟨hnK, hpa⟩ := hcond
              cases hx
              rename_i cap hl0 hk0 hc0
              obtain ⟨_, _, _, _, _, ⟨_, hkk, _⟩, _⟩ := R.obj i _ hg
              obtain ⟨c1, c2⟩ := hc0
              have hK : (cs.length - o) / z * z ≤ cs.length - o := Nat.div_mul_le_self _ _
              have hz1 : 0 < z := Nat.pos_of_ne_zero hz0
              generalize (cs.length - o) / z = K at *
              have hKc : K ≤ cap := Nat.le_of_mul_le_mul_right (c := z) (by omega) hz1
              obtain ⟨e1, e2, e3, e4, e5⟩ := slb_run (P := P) (w := w) hslb hl hh (m' := m') hm true cap hKc hnK
              rw [hrun _ _ _ _ _ _ e1]
              simp only [Option.isSome_none, Bool.false_eq_true, if_false]
              refine ⟨.slice (some ⟨(cx.r i).b, (cx.r i).d + (o + p * z), none⟩) (q - p) (cap - p), w, cx, ?_, .sl z i (o + p * z) (q - p) none (cap - p) hl0 (by omega) ?_, R, .refl _ _ _, .rfl⟩
              · congr 2
                by_cases hcp : cap = p
                · rw [if_pos hcp]
                  have : p = 0 := by omega
                  subst this; simp
                · rw [if_neg hcp]; simp only [Option.map_some, add_none, Nat.add_assoc]
              · have : p * z + (cap - p) * z = cap * z := by rw [← Nat.add_mul]; congr 1; omega
                exact ⟨by omega, by omega⟩
            · cases hop
          · cases hop
        · cases hop
      · cases hop
    rename_i p q r hslb
    have hx0 := hx
    cases hx
    rename_i cap hl0 hk0 hc0
    have hcc : c.getD n ≤ cap := by
      cases c with
      | none => simpa using hk0
      | some c => simp [hc0.1]
    have hnc : n ≤ c.getD n := by
      cases c with
      | none => simp
      | some c => have := hc0.1; simp; omega
    obtain ⟨e1, e2, e3, e4, e5⟩ := slb_run (P := P) (w := w) hslb hl hh hm true cap hcc hnc
    rw [hrun _ _ _ _ _ _ e1]
    split at hop
    · -- no capacity known, none asked
      simp only [Option.map_none, Option.isSome_none, Bool.false_eq_true, if_false] at e5 ⊢
      have hr := e5 trivial
      simp only [Option.getD_none] at hr hcc
      split at hop
      · rename_i hpa
        cases hop
        refine ⟨.slice (some ⟨(cx.r i).b, (cx.r i).d + (o + p * z), none⟩) (q - p) (cap - p), w, cx, ?_, .sl z i (o + p * z) (q - p) none (cap - p) hl0 (by omega) ?_, R, .refl _ _ _, .rfl⟩
        · congr 2
          by_cases hcp : cap = p
          · rw [if_pos hcp]
            have : p = 0 := by omega
            subst this; simp
          · rw [if_neg hcp]; simp only [Option.map_some, add_none, Nat.add_assoc]
        · have : p * z + (cap - p) * z = cap * z := by rw [← Nat.add_mul]; congr 1; omega
          obtain ⟨c1, c2⟩ := hc0
          exact ⟨by omega, by omega⟩
      · rename_i hpa
        have hq0 : q - p = 0 := by omega
        split at hop
        case h_2 => cases hop
        rename_i cs zf ty0 hg
        split at hop
        · rename_i hcl
          cases hop
          obtain ⟨_, _, _, _, _, ⟨_, hkk, _⟩, _⟩ := R.obj i _ hg
          obtain ⟨c1, c2⟩ := hc0
          have hpn : p = n := by omega
          rw [hq0]
          by_cases hcp : cap = p
          · rw [if_pos hcp]; exact ⟨_, w, cx, rfl, .se z i _ (cap - p) hl0 (.inl (by omega)), R, .refl _ _ _, .rfl⟩
          · rw [if_neg hcp]
            simp only [Option.map_some, add_none]
            refine ⟨_, w, cx, rfl, .se z i _ (cap - p) hl0 (.inr ⟨?_, ?_⟩), R, .refl _ _ _, .rfl⟩
            · rw [hpn, ← hkk, ← hcl, Nat.add_assoc]
            · have h1 : p * z + (cap - p) * z = cap * z := by rw [← Nat.add_mul]; congr 1; omega
              rw [hpn] at h1
              rw [hpn]
              omega
        · cases hop
          rw [hq0]
          by_cases hcp : cap = p
          · rw [if_pos hcp]; exact ⟨_, w, cx, rfl, VRep.pu_nil _ _ trivial, R, .refl _ _ _, .rfl⟩
          · rw [if_neg hcp]; exact ⟨_, w, cx, rfl, VRep.pu_nil _ _ trivial, R, .refl _ _ _, .rfl⟩
    · -- none known, one asked
      rename_i ma
      simp only [Option.map_some, Option.isSome_some, if_true] at e5 ⊢
      split at hop
      · rename_i cs zf ty0 hg
        split at hop
        · rename_i hcs
          obtain ⟨_, _, _, _, _, ⟨_, hkk, _⟩, _⟩ := R.obj i _ hg
          split at hop
          · rename_i hpa
            cases hop
            refine ⟨.slice (some ⟨(cx.r i).b, (cx.r i).d + (o + p * z), none⟩) (q - p) (r - p), w, cx, ?_, .sl z i (o + p * z) (q - p) (some (r - p)) (r - p) hl0 (by omega) ?_, R, .refl _ _ _, .rfl⟩
            · congr 2
              by_cases hcp : r = p
              · rw [if_pos hcp]
                have : p = 0 := by omega
                subst this; simp
              · rw [if_neg hcp]; simp only [Option.map_some, add_none, Nat.add_assoc]
            · have : p * z + (r - p) * z = r * z := by rw [← Nat.add_mul]; congr 1; omega
              exact ⟨rfl, by omega⟩
          · rename_i hpa
            cases hop
            have h1 : r = p := by omega
            have h2 : q - p = 0 := by omega
            rw [if_pos h1, h2, h1, Nat.sub_self]
            exact ⟨_, w, cx, rfl, VRep.pu_nil _ _ rfl, R, .refl _ _ _, .rfl⟩
        · cases hop
      · cases hop
    · -- it is known
      rename_i c'
      obtain ⟨rfl, hk2⟩ := hc0
      simp only [Option.getD_some] at e4 e5 hcc hnc
      have hr2 : (if (m.map (·.ev e)).isSome then r else cap) = r := by
        split
        · rfl
        · rename_i hm0; exact (e5 (by simpa using hm0)).symm
      rw [hr2]
      split at hop
      · rename_i hpa
        cases hop
        refine ⟨.slice (some ⟨(cx.r i).b, (cx.r i).d + (o + p * z), none⟩) (q - p) (r - p), w, cx, ?_, .sl z i (o + p * z) (q - p) (some (r - p)) (r - p) hl0 (by omega) ?_, R, .refl _ _ _, .rfl⟩
        · congr 2
          by_cases hcp : r = p
          · rw [if_pos hcp]
            have : p = 0 := by omega
            subst this; simp
          · rw [if_neg hcp]; simp only [Option.map_some, add_none, Nat.add_assoc]
        · have : p * z + (r - p) * z = r * z := by rw [← Nat.add_mul]; congr 1; omega
          have h5 : r * z ≤ cap * z := Nat.mul_le_mul_right z e4
          exact ⟨rfl, by omega⟩
      · rename_i hpa
        cases hop
        have h1 : r = p := by omega
        have h2 : q - p = 0 := by omega
        rw [if_pos h1, h2, h1, Nat.sub_self]
        exact ⟨_, w, cx, rfl, VRep.pu_nil _ _ rfl, R, .refl _ _ _, .rfl⟩
  · rename_i z xs c hea
    rw [hea] at hx
    split at hop
    case h_2 => cases hop
    rename_i p q r hslb
    split at hop
    · cases hop
    rename_i hz
    have hz : z = sz := by simpa using hz
    subst hz
    split at hop
    · cases hop
    rename_i hq
    have hq : q ≤ xs.length := by omega
    obtain ⟨hs, ⟨rfl, rfl, hcn⟩ | ⟨ad, cap, g, rfl, hsp, hle, one, hz2, hc, hv, hr, hp⟩⟩ := hx.pu_flat'
    · -- nil
      have hcap0 : capOr c ([] : List V).length = 0 := by cases c <;> simp_all [capN, capOr]
      rw [hcap0, List.length_nil] at hslb
      obtain ⟨e1, e2, e3, e4, e5⟩ := slb_run (P := P) (w := w) hslb hl hh hm true 0 (Nat.le_refl _) (Nat.le_refl _)
      rw [hrun _ _ _ _ _ _ e1]
      have h1 : q - p = 0 := by simp at hq; omega
      have h3 : (if (m.map (·.ev e)).isSome then r else 0) = 0 := by split <;> omega
      have h4 : (if (0 : Nat) = p then (none : Option Addr) else Option.map (fun ad : Addr => ad.add (p * z)) none) = none := by split <;> rfl
      rw [h1, h3, h4, Nat.zero_sub]
      have hp0 : p = 0 := by simp at hq; omega
      have hr0 : r - p = 0 := by omega
      split at hop
      · cases hop
        exact ⟨_, w, cx, rfl, by simpa using VRep.pu0 z _ (by rw [hr0]; rfl), R, .refl _ _ _, .rfl⟩
      · cases hop
        exact ⟨_, w, cx, rfl, by simpa using VRep.pu0 z _ (by rw [hr0]; rfl), R, .refl _ _ _, .rfl⟩
      · split at hop
        · cases hop
          exact ⟨_, w, cx, rfl, VRep.pu0 z _ hcn, R, .refl _ _ _, .rfl⟩
        · cases hop
          exact ⟨_, w, cx, rfl, by simpa using VRep.pu0 z .u trivial, R, .refl _ _ _, .rfl⟩
    · have hcap : capOr c xs.length ≤ cap := by
        cases c with
        | u => exact hle
        | z => exact hle
        | x c => exact Nat.le_of_eq hr.symm
        | t k => exact hle
      have hcap' : xs.length ≤ capOr c xs.length := by
        cases c with
        | u => exact Nat.le_refl _
        | z => exact Nat.le_refl _
        | x c => have : cap = c := hr; simp only [capOr]; omega
        | t k => exact Nat.le_refl _
      obtain ⟨e1, e2, e3, e4, e5⟩ := slb_run (P := P) (w := w) hslb hl hh hm true cap hcap hcap'
      rw [hrun _ _ _ _ _ _ e1]
      -- the result for any capacity
      have fin : ∀ (c' : Cap) (mx : Nat), q ≤ mx → (match c' with | .u => True | .z => True | .x k => mx - p = k | .t _ => False) → Ok (.ok (.slice (if mx = p then some ad else (some ad).map (·.add (p * z))) (q - p) (mx - p)) w) cx s w (.pu z ((xs.take q).drop p) c') s := fun c' mx hmx hc' => by
        by_cases hmp : mx = p
        · rw [if_pos hmp]
          have h1 : q - p = 0 := by omega
          have h2 : (xs.take q).drop p = [] := by apply List.length_eq_zero_iff.1; simp; omega
          rw [h1, h2]
          exact ⟨_, w, cx, rfl, VRep.pu_nil _ _ hc', R, .refl _ _ _, .rfl⟩
        · rw [if_neg hmp]
          exact ⟨_, w, cx, rfl, VRep.pu_cut hx e2 hq (by omega) hc', R, .refl _ _ _, .rfl⟩
      split at hop
      · rename_i c'
        cases hop
        have hcx : cap = c' := hr
        have hr2 : (if (m.map (·.ev e)).isSome then r else cap) = r := by
          split
          · rfl
          · rename_i hm0; rw [hcx]; exact (e5 (by simpa using hm0)).symm
        rw [hr2]
        exact fin (.x (r - p)) r e3 rfl
      · cases hop
        simp only [Option.map_some, Option.isSome_some, if_true]
        exact fin (.x (r - p)) r e3 rfl
      · simp only [Option.map_none, Option.isSome_none, Bool.false_eq_true, if_false]
        split at hop
        · rename_i h0
          obtain ⟨rfl, rfl⟩ := h0
          cases hop
          refine ⟨.slice (some ad) xs.length cap, w, cx, ?_, hx, R, .refl _ _ _, .rfl⟩
          simp only [Nat.sub_zero, Nat.zero_mul, Option.map_some]
          have : ad.add 0 = ad := by simp [Addr.add]
          rw [this]; simp
        · cases hop
          refine fin .u cap (by omega) trivial
  · rename_i z i hea
    rw [hea] at hx
    split at hop
    · cases hop
    rename_i hz
    have hz : z = sz := by simpa using hz
    subst hz
    split at hop
    case h_2 => cases hop
    rename_i pqr hslb
    obtain ⟨p, q, r⟩ := pqr
    cases hx
    rename_i ad cap hl0 hc0
    obtain ⟨e1, e2, e3, e4, e5⟩ := slb_run (P := P) (w := w) hslb hl hh hm true cap (Nat.zero_le _) (Nat.le_refl _)
    rw [hrun _ _ _ _ _ _ e1]
    have hp0 : p = 0 := by omega
    have hq0 : q = 0 := by omega
    have hr0 : r = 0 := by omega
    subst hp0; subst hq0; subst hr0
    split at hop
    · cases hop
      simp only [Option.map_none, Option.isSome_none, Bool.false_eq_true, if_false]
      by_cases hcp : cap = 0
      · rw [if_pos hcp]; exact ⟨_, w, cx, rfl, .se z i _ (cap - 0) hl0 (.inl (by omega)), R, .refl _ _ _, .rfl⟩
      · rw [if_neg hcp]
        obtain ⟨rfl, hroom⟩ := hc0.resolve_left hcp
        simp only [Option.map_some, add_none]
        exact ⟨_, w, cx, rfl, .se z i _ (cap - 0) hl0 (.inr ⟨by simp, by simpa using hroom⟩), R, .refl _ _ _, .rfl⟩
    · cases hop
      simp only [Option.map_some, Option.isSome_some, if_true]
      exact ⟨_, w, cx, rfl, VRep.pu_nil _ _ rfl, R, .refl _ _ _, .rfl⟩
  · cases hop

theorem sim_slA (R : Rel cx s w.heap) {t el : TypeId} {sz len : Nat} (hu : P.underlying t = some (.array len el)) (hsz : szP P el = some sz) {a : Arg} {l h m : Option Arg} {x : Value} {l' h' m' : Option Value} (hx : VRep cx w.heap s.L (a.ev e) x) (hl : ORp cx w.heap s.L (l.map (·.ev e)) l') (hh : ORp cx w.heap s.L (h.map (·.ev e)) h') (hm : ORp cx w.heap s.L (m.map (·.ev e)) m')
    {v : V} {s' : St} (hop : aop e s (.slA sz len a l h m) = some (v, s')) : Ok ((Instr.sliceAt t x l' h' m').run P w) cx s w v s' := by
  simp only [aop] at hop
  split at hop
  · rename_i i o hea
    rw [hea] at hx
    split at hop
    · rename_i cs zf ty0 hg
      split at hop
      · rename_i hcs
        simp only [Option.map_eq_some_iff] at hop
        obtain ⟨⟨p, q, r⟩, h1, h2⟩ := hop
        cases h2; cases hx
        rename_i hl0
        obtain ⟨e1, e2, e3, e4, e5⟩ := slb_run (P := P) (w := w) h1 hl hh hm false len (Nat.le_refl _) (Nat.le_refl _)
        have hr2 : (if (m.map (·.ev e)).isSome then r else len) = r := by
          split
          · rfl
          · rename_i hm0; exact (e5 (by simpa using hm0)).symm
        rw [hr2] at e1
        obtain ⟨_, _, _, _, _, ⟨_, hkk, _⟩, _⟩ := R.obj i _ hg
        have hrun : (Instr.sliceAt t (.pointer (some ⟨(cx.r i).b, (cx.r i).d + o, none⟩)) l' h' m').run P w = .ok (.slice (some (if r = p then ⟨(cx.r i).b, (cx.r i).d + o, none⟩ else (⟨(cx.r i).b, (cx.r i).d + o, none⟩ : Addr).add (p * sz))) (q - p) (r - p)) w := by
          simp only [Instr.sliceAt, Sem.run_bind, r_und w hu, Result.andThen_ok, Instr.sureAddr, Sem.run_pure, e1, r_size w hsz]
        rw [hrun]
        by_cases hrp : r = p
        · rw [if_pos hrp, if_pos hrp]
          have h2 : q - p = 0 := by omega
          rw [h2, hrp, Nat.sub_self]
          exact ⟨_, w, cx, rfl, VRep.pu_nil _ _ rfl, R, .refl _ _ _, .rfl⟩
        · rw [if_neg hrp, if_neg hrp]
          refine ⟨.slice (some ⟨(cx.r i).b, (cx.r i).d + (o + p * sz), none⟩) (q - p) (r - p), w, cx, by simp only [add_none, Nat.add_assoc], .sl sz i (o + p * sz) (q - p) (some (r - p)) (r - p) hl0 (by omega) ?_, R, .refl _ _ _, .rfl⟩
          have : p * sz + (r - p) * sz = r * sz := by rw [← Nat.add_mul]; congr 1; omega
          have h5 : r * sz ≤ len * sz := Nat.mul_le_mul_right sz e4
          exact ⟨rfl, by omega⟩
      · cases hop
    · cases hop
  · cases hop

end
end Rf
