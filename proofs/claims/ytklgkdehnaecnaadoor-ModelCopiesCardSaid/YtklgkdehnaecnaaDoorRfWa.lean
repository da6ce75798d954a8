/-
  Maps, interface values taken apart: each operation's run in the model is what the abstract machine says.
-/
import Derived.Test.YtklgkdehnaecnaaDoorRfW
import Derived.MapKept
import Derived.WideKeyRuns
set_option linter.all false
set_option linter.unusedSimpArgs false
namespace Rf
open Go

section
variable {gt : Nat → Option V} {P : Program} {w : World} {cx : Cx} {s : St} {e : List V} {act : Act}

/-- an object that is no row -/
theorem obj_x (R : Rel cx s w.heap) {l : Nat} {o : Ox} (hg : s.get l = some (.x o)) : XRep cx w.heap s.L (cx.r l).b o := (R.obj l _ hg).2
theorem obj_d (R : Rel cx s w.heap) {l : Nat} {o : Ox} (hg : s.get l = some (.x o)) : (cx.r l).d = 0 := (R.obj l _ hg).1

theorem zeroV_rep {t : TypeId} {z : V} (h : zeroV P t = some z) (cx : Cx) (hp : Array Obj) (n : Nat → Prop) : ∃ x, (zeroValue t).run P w = .ok x w ∧ VRep cx hp n z x := by
  unfold zeroV at h
  simp only [Option.bind_eq_some_iff] at h
  obtain ⟨x, ⟨i, h1, h2⟩, h3⟩ := h
  exact ⟨x, by simp [zeroValue, typeInfo, h1, h2], cst_rep cx hp n 8 x z h3⟩

/-! keys -/
theorem part_run {n : Nat → Prop} {A : List V} {X : Array Value} (r : Row cx w.heap n A X) {t : TypeId} {ks : List LK} : ∀ (d : Nat), eqTy P d t = some ks → szP P t = some ks.length → ∀ (o : Nat), o + ks.length ≤ A.length → ∃ p, (part t X o).run P w = .ok p w ∧
    ((∃ f, P.underlying t = some (.struct f) ∧ p = .agg (X.extract o (o + ks.length)))  ∨ ∃ dd, P.underlying t = some dd ∧ (∀ m, dd ≠ .interface m) ∧ (∀ n e, dd ≠ .array n e) ∧ ∀ f, dd ≠ .struct f)
  | 0, h, _, _, _ => by simp [eqTy] at h
  | d + 1, h, hsz, o, ho => by
    unfold eqTy at h
    split at h
    · rename_i hu
      cases h
      obtain ⟨v, x, h1, h2, h3⟩ := one_cell_part (P := P) (by simp [agP, hu] : agP P t = some false) r ho
      exact ⟨x, h2, .inr ⟨_, hu, by simp, by simp, by simp⟩⟩
    · rename_i k hu
      cases h
      obtain ⟨v, x, h1, h2, h3⟩ := one_cell_part (P := P) (by simp [agP, hu] : agP P t = some false) r ho
      exact ⟨x, h2, .inr ⟨_, hu, by simp, by simp, by simp⟩⟩
    · rename_i hu
      cases h
      obtain ⟨v, x, h1, h2, h3⟩ := one_cell_part (P := P) (by simp [agP, hu] : agP P t = some false) r ho
      exact ⟨x, h2, .inr ⟨_, hu, by simp, by simp, by simp⟩⟩
    · rename_i fs hu
      exact ⟨_, by simp only [part, Sem.run_bind, r_isAgg w (by simp [agP, hu] : agP P t = some true), Result.andThen_ok, if_true, r_size w hsz, Sem.run_pure], .inl ⟨fs, hu, rfl⟩⟩
    · cases h

theorem chk_prim {t : TypeId} {d : TypeDesc} (hu : P.underlying t = some d) (hd : (∀ m, d ≠ .interface m) ∧ (∀ n e, d ≠ .array n e) ∧ ∀ f, d ≠ .struct f) (em : Bool) (D : Nat) (x : Value) :
    (Instr.checkKey em (D + 1) t x).run P w = .ok () w := by
  rw [Instr.checkKey]
  simp only [Sem.run_bind, r_und w hu, Result.andThen_ok]
  cases d with
  | interface m => exact (hd.1 _ rfl).elim
  | array n e => exact (hd.2.1 _ _ rfl).elim
  | struct f => exact (hd.2.2 _ rfl).elim
  | _ => rfl

theorem chk_list (em : Bool) (D : Nat) (X : Array Value) : ∀ (fs : List Field), (∀ f ∈ fs, ∃ p, (part f.type X f.offset).run P w = .ok p w ∧ (Instr.checkKey em D f.type p).run P w = .ok () w) →
    (forIn fs PUnit.unit (fun f (_ : PUnit) => if f.name ≠ "_" then (do
        let x ← part f.type X f.offset
        Instr.checkKey em D f.type x
        pure (ForInStep.yield PUnit.unit)) else pure (ForInStep.yield PUnit.unit)) : Sem PUnit).run P w = .ok PUnit.unit w
  | [], _ => by simp
  | f :: fs, h => by
    obtain ⟨p, h1, h2⟩ := h f (List.mem_cons_self ..)
    have ih := chk_list em D X fs (fun g hg => h g (List.mem_cons_of_mem _ hg))
    rw [List.forIn_cons]
    by_cases hn : f.name ≠ "_"
    · simp only [hn, ne_eq, not_false_eq_true, if_true, Sem.run_bind, h1, h2, Result.andThen_ok, Sem.run_pure]
      exact ih
    · simp only [hn, if_false, Sem.run_bind, Sem.run_pure, Result.andThen_ok]
      exact ih


theorem eqFs_mem {go : TypeId → Option (List LK)} : ∀ {fs : List Field} {o : Nat} {tot : List LK}, eqFs go P o fs = some tot → ∀ f ∈ fs, ∃ ks, go f.type = some ks ∧ szP P f.type = some ks.length ∧ f.offset + ks.length ≤ o + tot.length
  | [], _, _, _, f, hf => by simp at hf
  | g :: fs, o, tot, h, f, hf => by
    obtain ⟨ks, rest, hm, hname, hoff, hsz, hrest, rfl⟩ := eqFs_split h
    rcases List.mem_cons.1 hf with rfl | hf
    · exact ⟨ks, hm, hsz, by simp; omega⟩
    · obtain ⟨k2, h1, h2, h3⟩ := eqFs_mem hrest f hf
      exact ⟨k2, h1, h2, by simp; omega⟩

theorem chk_ty {n : Nat → Prop} (em : Bool) : ∀ (d : Nat) (t : TypeId) (ks : List LK), eqTy P d t = some ks → szP P t = some ks.length → ∀ D, d ≤ D → ∀ {A : List V} {X : Array Value}, Row cx w.heap n A X → ∀ o, o + ks.length ≤ A.length →
    ∃ p, (part t X o).run P w = .ok p w ∧ (Instr.checkKey em D t p).run P w = .ok () w
  | 0, t, ks, h, _, _, _, _, _, _, _, _ => by simp [eqTy] at h
  | d + 1, t, ks, h, hsz, D, hD, A, X, r, o, ho => by
    obtain ⟨D, rfl⟩ : ∃ D', D = D' + 1 := ⟨D - 1, by omega⟩
    obtain ⟨p, hp, hcase⟩ := part_run r (d + 1) h hsz o ho
    refine ⟨p, hp, ?_⟩
    rcases hcase with ⟨fs, hu, rfl⟩ | ⟨dd, hu, hd⟩
    · unfold eqTy at h
      rw [hu] at h
      simp only at h
      split at h
      · cases h
      · rename_i hst
        have r' := seg_row r ho
        rw [Instr.checkKey]
        simp only [Sem.run_bind, r_und w hu, Result.andThen_ok]
        rw [← Array.forIn_toList]
        refine (congrArg (fun r => r.andThen fun _ w' => Sem.run P (Pure.pure ()) w') (chk_list em D _ fs.toList (fun f hf => ?_))).trans rfl
        obtain ⟨k2, h1, h2, h3⟩ := eqFs_mem h f hf
        exact chk_ty em d f.type k2 h1 h2 D (by omega) r' f.offset (by rw [seg_len ho]; omega)
    · exact chk_prim hu hd em D p

/-- a key's kind, and that it may be one -/
theorem chk_key {n : Nat → Prop} {kt : TypeId} {kk : KK} (hk : kkP P kt = some kk) {k : V} {y : Value} (hy : VRep cx w.heap n k y) (hko : kOk kk k = true) (em : Bool) :
    (Instr.checkKey em 10000 kt y).run P w = .ok () w := by
  unfold kkP at hk
  split at hk
  · rename_i hu; exact chk_prim hu (by simp) em 9999 y
  · rename_i kd hu; exact chk_prim hu (by simp) em 9999 y
  · rename_i hu; exact chk_prim hu (by simp) em 9999 y
  · rename_i fs hu
    simp only [Option.map_eq_some_iff] at hk
    obtain ⟨ks, hty, rfl⟩ := hk
    cases k <;> simp only [kOk, Bool.false_eq_true] at hko
    rename_i cs
    have hlen := Nat.eq_of_beq_eq_true hko
    have r := hy.row rfl
    cases hy
    rename_i vs hvs h1 hv
    have hty' : eqTy P (19 + 1) kt = some ks := hty
    rw [eqTy] at hty'
    simp only [hu] at hty'
    split at hty'
    · cases hty'
    · show (Instr.checkKey em (9999 + 1) kt (.agg vs)).run P w = _
      rw [Instr.checkKey]
      simp only [Sem.run_bind, r_und w hu, Result.andThen_ok]
      rw [← Array.forIn_toList]
      refine (congrArg (fun r => r.andThen fun _ w' => Sem.run P (Pure.pure ()) w') (chk_list em 9999 _ fs.toList (fun f hf => ?_))).trans rfl
      obtain ⟨k2, h1, h2, h3⟩ := eqFs_mem hty' f hf
      exact chk_ty em 19 f.type k2 h1 h2 9999 (by omega) r f.offset (by show f.offset + k2.length ≤ cs.length; omega)
  · cases hk


/-! where a key stands -/
theorem someb {α : Type} [BEq α] [LawfulBEq α] {a b : α} (h : some (a == b) = some true) : a = b := by simpa using h
theorem ba_beq (a b : List UInt8) : ((⟨a.toArray⟩ : ByteArray) == ⟨b.toArray⟩) = (a == b) := by
  show (a.toArray == b.toArray) = _
  simp
def KEqR (P : Program) (w : World) (kt : TypeId) (y y2 : Value) (r : Bool) : KK → Prop
  | .g _ => (Op.equal kt y y2).run P w = .ok r w
  | _ => ∃ d, P.underlying kt = some d ∧ Instr.sameNow d y y2 = some r
theorem keq_run {n : Nat → Prop} {kt : TypeId} {kk : KK} (hk : kkP P kt = some kk) {k k2 : V} {y y2 : Value} (hy : VRep cx w.heap n k y) (hy2 : VRep cx w.heap n k2 y2) {r : Bool} (h : keq kk k k2 = some r) :
    KEqR P w kt y y2 r kk ∧ (r = true → ∀ m, Instr.sameBits (m + 2) y2 y = true) := by
  unfold keq at h
  split at h
  · rename_i ka a kb b
    have hu : ∃ q, P.underlying kt = some (.int q) := by
      unfold kkP at hk
      split at hk <;> first | (cases hk; done) | exact ⟨_, by assumption⟩ | (simp only [Option.map_eq_some_iff] at hk; obtain ⟨_, _, hk⟩ := hk; cases hk)
    obtain ⟨q, hu⟩ := hu
    cases hy; cases hy2
    split at h
    · rename_i hkk
      subst hkk
      rw [eqZ_eq] at h
      cases h
      refine ⟨⟨_, hu, by simp [Instr.sameNow]⟩, fun he m => ?_⟩
      have : a = b := by simpa using he
      subst this
      simp [Instr.sameBits]
    · cases h
  · rename_i a b
    have hu : P.underlying kt = some .string := by
      unfold kkP at hk
      split at hk <;> first | (cases hk; done) | assumption | (simp only [Option.map_eq_some_iff] at hk; obtain ⟨_, _, hk⟩ := hk; cases hk)
    cases hy; cases hy2
    cases h
    exact ⟨⟨_, hu, by simp only [Instr.sameNow, ba_beq]⟩, fun he m => by
      have : a = b := by simpa using he
      subst this; simp only [Instr.sameBits, ba_beq, beq_self_eq_true]⟩
  · rename_i a b
    have hu : P.underlying kt = some .bool := by
      unfold kkP at hk
      split at hk <;> first | (cases hk; done) | assumption | (simp only [Option.map_eq_some_iff] at hk; obtain ⟨_, _, hk⟩ := hk; cases hk)
    cases hy; cases hy2
    cases h
    refine ⟨⟨_, hu, rfl⟩, fun he m => ?_⟩
    have : a = b := by simpa using he
    subst this
    simp [Instr.sameBits]
  · rename_i ks a b
    have hu : ∃ fs, P.underlying kt = some (.struct fs) ∧ eqTy P 20 kt = some ks := by
      unfold kkP at hk
      split at hk <;> first | (cases hk; done) | skip
      rename_i fs hu
      simp only [Option.map_eq_some_iff] at hk
      obtain ⟨ks', hty, h2⟩ := hk
      cases h2
      exact ⟨fs, hu, hty⟩
    obtain ⟨fs, hu, hty⟩ := hu
    split at h
    · rename_i hl
      have rx := hy.row rfl
      have ry := hy2.row rfl
      cases hy; cases hy2
      rename_i x0 hx0 hx1 hx2 y0 hy0 hy1 hy2
      have hty' : eqTy P (19 + 1) kt = some ks := hty
      rw [eqTy] at hty'
      simp only [hu] at hty'
      split at hty'
      · cases hty'
      · rename_i hst
        refine ⟨eqStruct_run (D := 9999) hu (by simpa using hst) (fun t' ks' h' hs' => eqTy_run 19 t' ks' h' hs' 9999 (by omega)) hty' rx ry hl.1 hl.2 h, fun he m => ?_⟩
        subst he
        show Instr.sameBits (m + 1 + 1) (.agg _) (.agg _) = true
        simp only [Instr.sameBits]
        have hcell : ∀ (ks : List LK) (a b : List V) (xs ys : List Value), veqs ks a b = some true → xs.length = a.length → ys.length = b.length → (∀ j, j < a.length → VRep cx w.heap n (a.getD j .bad) (xs.getD j undef)) → (∀ j, j < b.length → VRep cx w.heap n (b.getD j .bad) (ys.getD j undef)) →
            ys.length = xs.length ∧ (ys.zip xs).all (fun p => Instr.sameBits (m + 1) p.1 p.2) = true := by
          intro ks
          induction ks with
          | nil =>
            intro a b xs ys hv h1 h2 h3 h4
            cases a <;> cases b <;> simp [veqs] at hv
            simp at h1 h2
            simp [h1, h2]
          | cons k ks ih =>
            intro a b xs ys hv h1 h2 h3 h4
            cases a with
            | nil => simp [veqs] at hv
            | cons p a =>
              cases b with
              | nil => simp [veqs] at hv
              | cons q b =>
                simp only [veqs] at hv
                cases hpq : veq k p q with
                | none => rw [hpq] at hv; cases hv
                | some r =>
                  rw [hpq] at hv
                  cases r with
                  | false => cases hv
                  | true =>
                    simp only at hv
                    cases xs with
                    | nil => simp at h1
                    | cons x xs =>
                      cases ys with
                      | nil => simp at h2
                      | cons y ys =>
                        obtain ⟨g1, g2⟩ := ih a b xs ys hv (by simpa using h1) (by simpa using h2) (fun j hj => by simpa using h3 (j + 1) (by simpa using hj)) (fun j hj => by simpa using h4 (j + 1) (by simpa using hj))
                        have vx : VRep cx w.heap n p x := by simpa using h3 0 (by simp)
                        have vy : VRep cx w.heap n q y := by simpa using h4 0 (by simp)
                        refine ⟨by simp [g1], ?_⟩
                        simp only [List.zip_cons_cons, List.all_cons, Bool.and_eq_true]
                        refine ⟨?_, g2⟩
                        unfold veq at hpq
                        split at hpq
                        · cases vx; cases vy
                          have := someb hpq
                          subst this
                          simp [Instr.sameBits]
                        · split at hpq
                          · rename_i hkk
                            rw [eqZ_eq] at hpq
                            cases vx; cases vy
                            subst hkk
                            have := someb hpq
                            subst this
                            simp [Instr.sameBits]
                          · cases hpq
                        · cases vx; cases vy
                          have := someb hpq
                          subst this
                          simp only [Instr.sameBits, ba_beq, beq_self_eq_true]
                        · cases hpq
        obtain ⟨g1, g2⟩ := hcell ks a b x0.toList y0.toList h (by simpa using hx0) (by simpa using hy0) (fun j hj => by
          have := hx2 j hj
          rwa [show x0.getD j undef = x0.toList.getD j undef by simp [Array.getD_eq_getD_getElem?, List.getD]] at this) (fun j hj => by
          have := hy2 j hj
          rwa [show y0.getD j undef = y0.toList.getD j undef by simp [Array.getD_eq_getD_getElem?, List.getD]] at this)
        simp only [Bool.and_eq_true, beq_iff_eq]
        exact ⟨by simpa using g1, g2⟩
    · cases h
  · cases h

/-- the answers agree -/
def FRl (cx : Cx) (h : Array Obj) (n : Nat → Prop) (es : List (V × V × Nat)) (l : List MapEntry) : Option (Nat × V) → Option (Nat × Value) → Prop
  | none, none => True
  | some (i, v), some (j, x) => i = j ∧ VRep cx h n v x
  | _, _ => False

theorem find_run {kt : TypeId} {kk : KK} (hk : kkP P kt = some kk) {n : Nat → Prop} {k : V} {y : Value} (hy : VRep cx w.heap n k y) {es : List (V × V × Nat)} {l : List MapEntry} (hA : All2 (ER cx w.heap n) es l) {res : Option (Nat × V)} (h : findK kk k es 0 = some res) :
    ∃ res', (Instr.findKey kt y l).run P w = .ok res' w ∧ FRl cx w.heap n es l res res' := by
  have hd : ∃ d, P.underlying kt = some d := by
    unfold kkP at hk
    split at hk <;> first | exact ⟨_, by assumption⟩ | cases hk
  obtain ⟨d, hd⟩ := hd
  cases kk with
  | g ks =>
    have hst : ∃ fs, d = .struct fs := by
      unfold kkP at hk
      rw [hd] at hk
      split at hk <;> first | (cases hk; done) | skip
      rename_i fs h1
      cases h1
      exact ⟨fs, rfl⟩
    obtain ⟨fs, rfl⟩ := hst
    rw [run_findKey_eq w (by rw [hd])]
    have key : ∀ (es : List (V × V × Nat)) (l : List MapEntry) (i : Nat), All2 (ER cx w.heap n) es l → findK (.g ks) k es i = some res → ∃ res', (Instr.findAsking kt y l i).run P w = .ok res' w ∧ FRl cx w.heap n es l res res' := by
      intro es
      induction es with
      | nil =>
        intro l i hA h
        rw [hA.inv_nil]
        simp only [findK] at h; cases h
        exact ⟨none, rfl, trivial⟩
      | cons x es ih =>
        intro l i hA h
        obtain ⟨b, m, rfl, hx, ht⟩ := hA.inv_cons
        obtain ⟨k2, v2, b2⟩ := x
        simp only [findK] at h
        cases hq : keq (.g ks) k k2 with
        | none => rw [hq] at h; cases h
        | some r =>
          rw [hq] at h
          have this : (Op.equal kt y b.key).run P w = .ok r w := (keq_run hk hy hx.2.1 hq).1
          simp only [Instr.findAsking, Sem.run_bind, this, Result.andThen_ok]
          cases r with
          | true =>
            cases h
            exact ⟨some (i, b.val), by simp, rfl, hx.2.2⟩
          | false =>
            simp only [Bool.false_eq_true, if_false]
            obtain ⟨res', h1, h2⟩ := ih m (i + 1) ht h
            refine ⟨res', h1, ?_⟩
            cases res <;> cases res' <;> exact h2
    exact key es l 0 hA h
  | i =>
    have key : ∀ (es : List (V × V × Nat)) (l : List MapEntry) (i : Nat), All2 (ER cx w.heap n) es l → findK .i k es i = some res → ∃ res', Instr.findNow d y l i = some res' ∧ FRl cx w.heap n es l res res' := by
      intro es
      induction es with
      | nil =>
        intro l i hA h
        rw [hA.inv_nil]
        simp only [findK] at h; cases h
        exact ⟨none, rfl, trivial⟩
      | cons x es ih =>
        intro l i hA h
        obtain ⟨b, m, rfl, hx, ht⟩ := hA.inv_cons
        obtain ⟨k2, v2, b2⟩ := x
        simp only [findK] at h
        cases hq : keq .i k k2 with
        | none => rw [hq] at h; cases h
        | some r =>
          rw [hq] at h
          obtain ⟨d', hd', this⟩ := (keq_run hk hy hx.2.1 hq).1
          rw [hd] at hd'
          cases hd'
          simp only [Instr.findNow, this]
          cases r with
          | true =>
            cases h
            exact ⟨some (i, b.val), rfl, rfl, hx.2.2⟩
          | false =>
            obtain ⟨res', h1, h2⟩ := ih m (i + 1) ht h
            refine ⟨res', h1, ?_⟩
            cases res <;> cases res' <;> exact h2
    obtain ⟨res', h1, h2⟩ := key es l 0 hA h
    exact ⟨res', by simp only [Instr.findKey, Sem.run_bind, r_und w hd, Result.andThen_ok, h1, Sem.run_pure], h2⟩
  | s =>
    have key : ∀ (es : List (V × V × Nat)) (l : List MapEntry) (i : Nat), All2 (ER cx w.heap n) es l → findK .s k es i = some res → ∃ res', Instr.findNow d y l i = some res' ∧ FRl cx w.heap n es l res res' := by
      intro es
      induction es with
      | nil =>
        intro l i hA h
        rw [hA.inv_nil]
        simp only [findK] at h; cases h
        exact ⟨none, rfl, trivial⟩
      | cons x es ih =>
        intro l i hA h
        obtain ⟨b, m, rfl, hx, ht⟩ := hA.inv_cons
        obtain ⟨k2, v2, b2⟩ := x
        simp only [findK] at h
        cases hq : keq .s k k2 with
        | none => rw [hq] at h; cases h
        | some r =>
          rw [hq] at h
          obtain ⟨d', hd', this⟩ := (keq_run hk hy hx.2.1 hq).1
          rw [hd] at hd'
          cases hd'
          simp only [Instr.findNow, this]
          cases r with
          | true =>
            cases h
            exact ⟨some (i, b.val), rfl, rfl, hx.2.2⟩
          | false =>
            obtain ⟨res', h1, h2⟩ := ih m (i + 1) ht h
            refine ⟨res', h1, ?_⟩
            cases res <;> cases res' <;> exact h2
    obtain ⟨res', h1, h2⟩ := key es l 0 hA h
    exact ⟨res', by simp only [Instr.findKey, Sem.run_bind, r_und w hd, Result.andThen_ok, h1, Sem.run_pure], h2⟩
  | b =>
    have key : ∀ (es : List (V × V × Nat)) (l : List MapEntry) (i : Nat), All2 (ER cx w.heap n) es l → findK .b k es i = some res → ∃ res', Instr.findNow d y l i = some res' ∧ FRl cx w.heap n es l res res' := by
      intro es
      induction es with
      | nil =>
        intro l i hA h
        rw [hA.inv_nil]
        simp only [findK] at h; cases h
        exact ⟨none, rfl, trivial⟩
      | cons x es ih =>
        intro l i hA h
        obtain ⟨b, m, rfl, hx, ht⟩ := hA.inv_cons
        obtain ⟨k2, v2, b2⟩ := x
        simp only [findK] at h
        cases hq : keq .b k k2 with
        | none => rw [hq] at h; cases h
        | some r =>
          rw [hq] at h
          obtain ⟨d', hd', this⟩ := (keq_run hk hy hx.2.1 hq).1
          rw [hd] at hd'
          cases hd'
          simp only [Instr.findNow, this]
          cases r with
          | true =>
            cases h
            exact ⟨some (i, b.val), rfl, rfl, hx.2.2⟩
          | false =>
            obtain ⟨res', h1, h2⟩ := ih m (i + 1) ht h
            refine ⟨res', h1, ?_⟩
            cases res <;> cases res' <;> exact h2
    obtain ⟨res', h1, h2⟩ := key es l 0 hA h
    exact ⟨res', by simp only [Instr.findKey, Sem.run_bind, r_und w hd, Result.andThen_ok, h1, Sem.run_pure], h2⟩


/-! the operations -/
theorem r_getMap {b : Nat} {es : Array MapEntry} {clk : Nat} (h : w.heap[b]? = some (.map es clk)) : (getObj b).run P w = .ok (.map es clk) w := by simp [getObj, Sem.run, h]
theorem r_setMap {b : Nat} {es : Array MapEntry} {clk : Nat} (o : Obj) (h : w.heap[b]? = some (.map es clk)) : (setObj b o).run P w = .ok () { w with heap := w.heap.setIfInBounds b o } := by simp [setObj, Sem.run, h]
theorem r_getIt {b : Nat} {m : Option Nat} {a : Nat} {sn : Array Nat} {c : Nat} (h : w.heap[b]? = some (.mapIter m a sn c)) : (getObj b).run P w = .ok (.mapIter m a sn c) w := by simp [getObj, Sem.run, h]
theorem r_setIt {b : Nat} {m : Option Nat} {a : Nat} {sn : Array Nat} {c : Nat} (o : Obj) (h : w.heap[b]? = some (.mapIter m a sn c)) : (setObj b o).run P w = .ok () { w with heap := w.heap.setIfInBounds b o } := by simp [setObj, Sem.run, h]

theorem sim_mlen (R : Rel cx s w.heap) {t kt et ty : TypeId} (hu : P.underlying t = some (.map kt et)) {m : V} {x : Value} (hx : VRep cx w.heap s.L m x) {v : V} {s' : St} (hop : mop s .mlen [m] = some (v, s')) :
    Ok ((Builtin.len_ #[t] ty #[x]).run P w) cx s w v s' := by
  simp only [mop] at hop
  split at hop
  · cases hop; cases hx
    refine ⟨_, w, cx, ?_, .i .i64 0, R, .refl _ _ _, .rfl⟩
    simp [Builtin.len_, Sem.run_bind, r_und w hu, goInt]
  · split at hop
    · rename_i l es clk hg
      cases hop; cases hx
      obtain ⟨ml, h1, h2⟩ := obj_x R hg
      refine ⟨_, w, cx, ?_, .i .i64 es.length, R, .refl _ _ _, .rfl⟩
      simp [Builtin.len_, Sem.run_bind, r_und w hu, goInt, r_getMap h1, h2.len]
    · cases hop
  · cases hop

theorem sim_mkm (R : Rel cx s w.heap) {t kt et : TypeId} (hu : P.underlying t = some (.map kt et)) {r : Option V} {x : Option Value} (hx : ORp cx w.heap s.L r x) {v : V} {s' : St} (hop : mop s .mkm r.toList = some (v, s')) :
    Ok ((Instr.makeMap t x).run P w) cx s w v s' := by
  have key : (Instr.makeMap t x).run P w = .ok (.map (some w.heap.size)) { w with heap := w.heap.push (.map #[] 0) } → v = .m s.n → s' = s.new (.x (.mp [] 0)) → Ok ((Instr.makeMap t x).run P w) cx s w v s' := fun hr hv hs => by
    subst hv; subst hs
    obtain ⟨cx', c1, c2, c3⟩ := R.newX (.mp [] 0) (.map #[] 0) (fun cx' hc L => ⟨[], by simp, .nil⟩)
    refine ⟨_, { w with heap := w.heap.push (.map #[] 0) }, cx', hr, ?_, c2, c3, ⟨rfl, rfl⟩⟩
    have := VRep.m (cx := cx') (h := w.heap.push (.map #[] 0)) (n := (s.new (.x (.mp [] 0))).L) s.n (St.new_L0 _ R.gl)
    rwa [c1] at this
  cases r with
  | none =>
    cases x with
    | some x => exact hx.elim
    | none =>
      simp only [Option.toList, mop] at hop
      cases hop
      exact key (by simp [Instr.makeMap, newObj, Sem.run, Result.andThen]) rfl rfl
  | some r =>
    cases x with
    | none => exact hx.elim
    | some x =>
      have hx : VRep cx w.heap s.L r x := hx
      cases r <;> simp only [Option.toList, mop] at hop <;> try (cases hop; done)
      cases hop
      cases hx
      exact key (by simp [Instr.makeMap, newObj, Sem.run, Sem.run_bind, r_und w hu, asInt, asIntOf, Result.andThen]) rfl rfl

theorem sim_look (R : Rel cx s w.heap) {t kt et : TypeId} {kk : KK} {z : V} {ok : Bool} (hu : P.underlying t = some (.map kt et)) (hk : kkP P kt = some kk) (hz : zeroV P et = some z) {m k : V} {x y : Value} (hx : VRep cx w.heap s.L m x) (hy : VRep cx w.heap s.L k y) {v : V} {s' : St} (hop : mop s (.look kk ok z) [m, k] = some (v, s')) :
    Ok ((Instr.lookup t x y ok).run P w) cx s w v s' := by
  obtain ⟨zx, hz1, hz2⟩ := zeroV_rep (P := P) (w := w) hz cx w.heap s.L
  have tup : ∀ (u : V) (ux : Value) (b : Bool), VRep cx w.heap s.L u ux → VRep cx w.heap s.L (if ok then .tu [u, .b b] else u) (if ok then .tuple #[ux, .bool b] else ux) := fun u ux b hu => by
    cases ok with
    | false => simpa using hu
    | true =>
      simp only [if_true]
      refine .tu _ _ rfl (fun j hj => ?_)
      match j, hj with
      | 0, _ => simpa using hu
      | 1, _ => exact .b b
  simp only [mop] at hop
  split at hop
  · rename_i hko
    split at hop
    · cases hop; cases hx
      refine ⟨_, w, cx, ?_, tup z zx false hz2, R, .refl _ _ _, .rfl⟩
      obtain ⟨res', h1, h2⟩ := find_run (l := []) (es := []) hk hy .nil (res := none) rfl
      cases res' with
      | some _ => exact h2.elim
      | none =>
      simp only [Instr.lookup, Sem.run_bind, r_und w hu, Result.andThen_ok, Sem.run_pure, chk_key hk hy hko, h1, hz1]
    · split at hop
      · rename_i l es clk hg
        obtain ⟨ml, g1, g2⟩ := obj_x R hg
        split at hop
        · rename_i i u hf
          cases hop; cases hx
          obtain ⟨res', h1, h2⟩ := find_run hk hy g2 hf
          cases res' with
          | none => exact h2.elim
          | some p =>
            obtain ⟨j, ux⟩ := p
            refine ⟨_, w, cx, ?_, tup u ux true h2.2, R, .refl _ _ _, .rfl⟩
            simp only [Instr.lookup, Sem.run_bind, r_und w hu, Result.andThen_ok, Sem.run_pure, r_getMap g1, chk_key hk hy hko, h1]
        · rename_i hf
          cases hop; cases hx
          obtain ⟨res', h1, h2⟩ := find_run hk hy g2 hf
          cases res' with
          | some _ => exact h2.elim
          | none =>
            refine ⟨_, w, cx, ?_, tup z zx false hz2, R, .refl _ _ _, .rfl⟩
            simp only [Instr.lookup, Sem.run_bind, r_und w hu, Result.andThen_ok, Sem.run_pure, r_getMap g1, chk_key hk hy hko, h1, hz1]
        · cases hop
      · cases hop
    · cases hop
  · cases hop


/-! changes of a map -/
theorem all2_get {α β : Type} {R : α → β → Prop} : ∀ {l : List α} {m : List β}, All2 R l m → ∀ (i : Nat) (a : α), l[i]? = some a → ∃ b, m[i]? = some b ∧ R a b
  | _, _, .nil, i, a, h => by simp at h
  | _, _, .cons hr t, 0, a, h => by simp at h; subst h; exact ⟨_, rfl, hr⟩
  | _, _, .cons hr t, i + 1, a, h => by simpa using all2_get t i a (by simpa using h)

theorem findK_get {kk : KK} {k : V} : ∀ {es : List (V × V × Nat)} {o i : Nat} {v : V}, findK kk k es o = some (some (i, v)) → o ≤ i ∧ ∃ k2 b, es[i - o]? = some (k2, v, b) ∧ keq kk k k2 = some true
  | [], o, i, v, h => by simp [findK] at h
  | (k2, v2, b) :: r, o, i, v, h => by
    simp only [findK] at h
    split at h
    · rename_i hq
      cases h
      exact ⟨Nat.le_refl _, k2, b, by simp, hq⟩
    · obtain ⟨h1, k3, b3, h2, h3⟩ := findK_get h
      refine ⟨by omega, k3, b3, ?_, h3⟩
      rw [show i - o = (i - (o + 1)) + 1 by omega]
      simpa using h2
    · cases h

theorem setVal_rep {h : Array Obj} {n : Nat → Prop} {k v : V} {y z : Value} (hy : VRep cx h n k y) (hz : VRep cx h n v z) : ∀ {es : List (V × V × Nat)} {l : List MapEntry}, All2 (ER cx h n) es l → ∀ i, All2 (ER cx h n) (setVal es i k v) (l.modify i fun e => { e with key := y, val := z })
  | _, _, .nil, i => by cases i <;> exact .nil
  | _, _, .cons hr t, 0 => by
    rename_i a b l m
    obtain ⟨a1, a2, a3⟩ := a
    exact .cons ⟨hr.1, hy, hz⟩ t
  | _, _, .cons hr t, i + 1 => by
    rename_i a b l m
    obtain ⟨a1, a2, a3⟩ := a
    exact .cons hr (setVal_rep hy hz t i)

theorem onlyVal_rep {h : Array Obj} {n : Nat → Prop} {b : Nat} {v : V} {z : Value} (hz : VRep cx h n v z) : ∀ {es es' : List (V × V × Nat)} {l : List MapEntry}, All2 (ER cx h n) es l → onlyVal es b v = some es' →
    ∃ i, l.findIdx? (fun e => (e.born : Int) == (b : Int)) = some i ∧ All2 (ER cx h n) es' (l.modify i fun e => { e with val := z })
  | _, _, _, .nil, hop => by simp [onlyVal] at hop
  | _, es', _, .cons hr t, hop => by
    rename_i a x l m
    obtain ⟨a1, a2, a3⟩ := a
    simp only [onlyVal] at hop
    have hb : x.born = a3 := hr.1
    split at hop
    · rename_i he
      cases hop
      refine ⟨0, by simp [List.findIdx?_cons, hb, he], ?_⟩
      exact .cons ⟨by rw [hb, he], hr.2.1, hz⟩ t
    · rename_i he
      simp only [Option.map_eq_some_iff] at hop
      obtain ⟨r, h1, h2⟩ := hop
      subst h2
      obtain ⟨i, h3, h4⟩ := onlyVal_rep hz t h1
      refine ⟨i + 1, ?_, .cons hr h4⟩
      have : ((x.born : Int) == (b : Int)) = false := by rw [hb]; simp; omega
      simp only [List.findIdx?_cons, this, h3, Option.map_some]
      rfl

theorem bornAt_rep {h : Array Obj} {n : Nat → Prop} {b : Nat} {k v : V} : ∀ {es : List (V × V × Nat)} {l : List MapEntry}, All2 (ER cx h n) es l → bornAt es b = some (k, v) →
    ∃ e, l.find? (fun e => e.born == b) = some e ∧ VRep cx h n k e.key ∧ VRep cx h n v e.val
  | _, _, .nil, hop => by simp [bornAt] at hop
  | _, _, .cons hr t, hop => by
    rename_i a x l m
    obtain ⟨a1, a2, a3⟩ := a
    simp only [bornAt] at hop
    have hb : x.born = a3 := hr.1
    split at hop
    · rename_i he
      cases hop
      exact ⟨x, by simp [List.find?_cons, hb, he], hr.2⟩
    · rename_i he
      obtain ⟨e, h1, h2⟩ := bornAt_rep t hop
      refine ⟨e, ?_, h2⟩
      have : (x.born == b) = false := by rw [hb]; simpa using he
      simp only [List.find?_cons, this, h1]

theorem erase_rep {h : Array Obj} {n : Nat → Prop} : ∀ {es : List (V × V × Nat)} {l : List MapEntry}, All2 (ER cx h n) es l → ∀ i, All2 (ER cx h n) (es.eraseIdx i) (l.eraseIdx i)
  | _, _, .nil, i => by cases i <;> exact .nil
  | _, _, .cons hr t, 0 => t
  | _, _, .cons hr t, i + 1 => .cons hr (erase_rep t i)

/-- a map is another one now -/
theorem put_map (R : Rel cx s w.heap) {l : Nat} {es : List (V × V × Nat)} {clk : Nat} (hg : s.get l = some (.x (.mp es clk))) (es' : List (V × V × Nat)) (clk' : Nat) (ml : List MapEntry) (hA : All2 (ER cx w.heap s.L) es' ml) :
    Rel cx (s.put l (some (.x (.mp es' clk')))) (w.heap.setIfInBounds (cx.r l).b (.map ml.toArray clk')) ∧ Ext cx s w.heap cx (s.put l (some (.x (.mp es' clk')))) (w.heap.setIfInBounds (cx.r l).b (.map ml.toArray clk')) := by
  obtain ⟨ml0, h1, h2⟩ := obj_x R hg
  refine R.updX hg _ _ (fun L => ⟨ml, ?_, hA.mono fun x y hx => ⟨hx.1, hx.2.1.later L, hx.2.2.later L⟩⟩) (fun _ _ _ => by simp)
  have := (Array.getElem?_eq_some_iff.1 h1).1
  simp [this]

theorem stays_key {kt : TypeId} {kk : KK} (hk : kkP P kt = some kk) {n : Nat → Prop} {k k2 : V} {y y2 : Value} (hy : VRep cx w.heap n k y) (hy2 : VRep cx w.heap n k2 y2) (h : keq kk k k2 = some true) : (Instr.keyThatStays y2 y).run P w = .ok y w := by
  have := (keq_run (w := w) hk hy hy2 h).2 rfl 9998
  simp only [Instr.keyThatStays, this, if_true]
  rfl

theorem sim_upd (R : Rel cx s w.heap) {t kt et : TypeId} {kk : KK} (hu : P.underlying t = some (.map kt et)) (hk : kkP P kt = some kk) {m k u : V} {x y z : Value} (hx : VRep cx w.heap s.L m x) (hy : VRep cx w.heap s.L k y) (hz : VRep cx w.heap s.L u z) {v : V} {s' : St} (hop : mop s (.upd kk) [m, k, u] = some (v, s')) :
    ∃ w' cx', (Instr.mapUpdate t x y z).run P w = .ok () w' ∧ VRep cx' w'.heap s'.L v undef ∧ Rel cx' s' w'.heap ∧ Ext cx s w.heap cx' s' w'.heap ∧ Qt w w' := by
  simp only [mop] at hop
  split at hop
  case isFalse => cases hop
  rename_i hko
  split at hop
  case h_2 => cases hop
  rename_i l
  split at hop
  case h_2 => cases hop
  rename_i es clk hg
  cases hx
  obtain ⟨ml, g1, g2⟩ := obj_x R hg
  split at hop
  · rename_i i u0 hf
    cases hop
    obtain ⟨res', h1, h2⟩ := find_run hk hy g2 hf
    obtain ⟨-, k2, b, h3, h4⟩ := findK_get hf
    rw [Nat.sub_zero] at h3
    obtain ⟨en, h5, h6⟩ := all2_get g2 _ _ h3
    cases res' with
    | none => exact h2.elim
    | some p =>
      obtain ⟨j, ux⟩ := p
      obtain ⟨rfl, -⟩ := h2
      obtain ⟨R', E'⟩ := put_map R hg (setVal es i k u) clk (ml.modify i fun e => { e with key := y, val := z }) (setVal_rep hy hz g2 i)
      refine ⟨{ w with heap := _ }, cx, ?_, VRep.un _ _ _, R', E', ⟨rfl, rfl⟩⟩
      have hst := stays_key hk hy h6.2.1 h4
      simp only [Instr.mapUpdate, Sem.run_bind, r_und w hu, Result.andThen_ok, Sem.run_pure, r_getMap g1, chk_key hk hy hko, h1, List.getElem?_toArray, h5, Option.map_some, Option.getD_some, hst, r_setMap _ g1, List.modify_toArray]
      try rfl
  · rename_i hf
    cases hop
    obtain ⟨res', h1, h2⟩ := find_run hk hy g2 hf
    cases res' with
    | some _ => exact h2.elim
    | none =>
      obtain ⟨R', E'⟩ := put_map R hg (es ++ [(k, u, clk)]) (clk + 1) (ml ++ [{ key := y, val := z, born := clk }]) (g2.append (.cons ⟨rfl, hy, hz⟩ .nil))
      refine ⟨{ w with heap := _ }, cx, ?_, VRep.un _ _ _, R', E', ⟨rfl, rfl⟩⟩
      simp only [Instr.mapUpdate, Sem.run_bind, r_und w hu, Result.andThen_ok, Sem.run_pure, r_getMap g1, chk_key hk hy hko, h1, r_setMap _ g1, List.push_toArray]
      try rfl
  · cases hop

theorem sim_ent (R : Rel cx s w.heap) {t kt et : TypeId} {kk : KK} {z : V} (hu : P.underlying t = some (.map kt et)) (hk : kkP P kt = some kk) (hz : zeroV P et = some z) {m k : V} {x y : Value} (hx : VRep cx w.heap s.L m x) (hy : VRep cx w.heap s.L k y) {v : V} {s' : St} (hop : mop s (.ent kk z) [m, k] = some (v, s')) :
    Ok ((Instr.mapEntry t x y).run P w) cx s w v s' := by
  obtain ⟨zx, hz1, hz2⟩ := zeroV_rep (P := P) (w := w) hz cx w.heap s.L
  have tup : ∀ {cx' : Cx} {h' : Array Obj} {n' : Nat → Prop} (u : V) (ux : Value) (b : Nat), VRep cx' h' n' u ux → VRep cx' h' n' (.tu [u, .i .i64 b]) (.tuple #[ux, goInt b]) := fun u ux b hu => by
    refine .tu _ _ rfl (fun j hj => ?_)
    match j, hj with
    | 0, _ => simpa using hu
    | 1, _ => exact .i .i64 b
  simp only [mop] at hop
  split at hop
  case isFalse => cases hop
  rename_i hko
  split at hop
  case h_2 => cases hop
  rename_i l
  split at hop
  case h_2 => cases hop
  rename_i es clk hg
  cases hx
  obtain ⟨ml, g1, g2⟩ := obj_x R hg
  split at hop
  · rename_i i u0 hf
    split at hop
    · rename_i k9 v9 b9 h9
      cases hop
      obtain ⟨res', h1, h2⟩ := find_run hk hy g2 hf
      obtain ⟨-, k2, b, h3, h4⟩ := findK_get hf
      rw [Nat.sub_zero] at h3
      rw [h3] at h9
      cases h9
      obtain ⟨en, h5, h6⟩ := all2_get g2 _ _ h3
      cases res' with
      | none => exact h2.elim
      | some p =>
        obtain ⟨j, ux⟩ := p
        obtain ⟨rfl, hvx⟩ := h2
        have hmod : All2 (ER cx w.heap s.L) (setVal es i k u0) (ml.modify i fun e => { e with key := y }) := by
          have h7 := setVal_rep hy h6.2.2 g2 i
          have : (ml.modify i fun e => { e with key := y, val := en.val }) = ml.modify i fun e => { e with key := y } := by
            apply List.ext_getElem?
            intro j
            simp only [List.getElem?_modify]
            by_cases hij : i = j
            · subst hij; simp [h5]
            · simp [hij]
          rwa [this] at h7
        obtain ⟨R', E'⟩ := put_map R hg (setVal es i k u0) clk (ml.modify i fun e => { e with key := y }) hmod
        refine ⟨_, { w with heap := _ }, cx, ?_, tup u0 ux _ (hvx.later E'.later), R', E', ⟨rfl, rfl⟩⟩
        have hst := stays_key hk hy h6.2.1 h4
        have hb := h6.1
        simp only at hb
        simp only [Instr.mapEntry, Sem.run_bind, r_und w hu, Result.andThen_ok, Sem.run_pure, r_getMap g1, chk_key hk hy hko, h1, List.getElem?_toArray, h5, Option.map_some, Option.getD_some, hst, r_setMap _ g1, List.modify_toArray, hb]
        try rfl
    · cases hop
  · rename_i hf
    cases hop
    obtain ⟨res', h1, h2⟩ := find_run hk hy g2 hf
    cases res' with
    | some _ => exact h2.elim
    | none =>
      obtain ⟨R', E'⟩ := put_map R hg (es ++ [(k, z, clk)]) (clk + 1) (ml ++ [{ key := y, val := zx, born := clk }]) (g2.append (.cons ⟨rfl, hy, hz2⟩ .nil))
      refine ⟨_, { w with heap := _ }, cx, ?_, tup z zx clk (hz2.later E'.later), R', E', ⟨rfl, rfl⟩⟩
      simp only [Instr.mapEntry, Sem.run_bind, r_und w hu, Result.andThen_ok, Sem.run_pure, r_getMap g1, chk_key hk hy hko, h1, hz1, r_setMap _ g1, List.push_toArray]
      try rfl
  · cases hop

theorem sim_ens (R : Rel cx s w.heap) {t : TypeId} {m b u : V} {x y z : Value} (hx : VRep cx w.heap s.L m x) (hy : VRep cx w.heap s.L b y) (hz : VRep cx w.heap s.L u z) {v : V} {s' : St} (hop : mop s .ens [m, b, u] = some (v, s')) :
    ∃ w' cx', (Instr.entryStore t x y z).run P w = .ok () w' ∧ VRep cx' w'.heap s'.L v undef ∧ Rel cx' s' w'.heap ∧ Ext cx s w.heap cx' s' w'.heap ∧ Qt w w' := by
  simp only [mop] at hop
  split at hop
  case h_2 => cases hop
  rename_i l k0 b
  split at hop
  case h_2 => cases hop
  rename_i es clk hg
  split at hop
  case isFalse => cases hop
  rename_i hb0
  split at hop
  · rename_i es' hov
    cases hop
    cases hx; cases hy
    obtain ⟨ml, g1, g2⟩ := obj_x R hg
    obtain ⟨i, h1, h2⟩ := onlyVal_rep hz g2 hov
    have hbb : ((b.toNat : Nat) : Int) = b := Int.toNat_of_nonneg hb0
    rw [hbb] at h1
    obtain ⟨R', E'⟩ := put_map R hg es' clk _ h2
    refine ⟨{ w with heap := _ }, cx, ?_, VRep.un _ _ _, R', E', ⟨rfl, rfl⟩⟩
    simp only [Instr.entryStore, Sem.run_bind, Result.andThen_ok, Sem.run_pure, r_getMap g1, asInt, asIntOf, List.findIdx?_toArray, h1, r_setMap _ g1, List.modify_toArray]
    try rfl
  · cases hop

theorem sim_mclr (R : Rel cx s w.heap) {t kt et ty : TypeId} (hu : P.underlying t = some (.map kt et)) {m : V} {x : Value} (hx : VRep cx w.heap s.L m x) {v : V} {s' : St} (hop : mop s .mclr [m] = some (v, s')) :
    Ok ((Builtin.clear_ #[t] ty #[x]).run P w) cx s w v s' := by
  simp only [mop] at hop
  split at hop
  · cases hop; cases hx
    refine ⟨_, w, cx, ?_, VRep.un _ _ _, R, .refl _ _ _, .rfl⟩
    simp [Builtin.clear_, Sem.run_bind, r_und w hu, undef]
  · rename_i l
    split at hop
    case h_2 => cases hop
    rename_i es clk hg
    cases hx
    obtain ⟨ml, g1, g2⟩ := obj_x R hg
    cases hop
    obtain ⟨R', E'⟩ := put_map R hg [] clk [] .nil
    refine ⟨_, { w with heap := _ }, cx, ?_, VRep.un _ _ _, R', E', ⟨rfl, rfl⟩⟩
    simp [Builtin.clear_, Sem.run_bind, r_und w hu, r_getMap g1, r_setMap _ g1, undef]
    try rfl
  · cases hop

theorem sim_sclr (R : Rel cx s w.heap) {t el ty : TypeId} {z : List V} (hu : P.underlying t = some (.slice el)) (hz : zeroP P el = some z) {m : V} {x : Value} (hx : VRep cx w.heap s.L m x) {v : V} {s' : St} (hop : mop s (.sclr z) [m] = some (v, s')) :
    Ok ((Builtin.clear_ #[t] ty #[x]).run P w) cx s w v s' := by
  simp only [mop] at hop
  split at hop
  · cases hop; cases hx
    refine ⟨_, w, cx, ?_, VRep.un _ _ _, R, .refl _ _ _, .rfl⟩
    simp [Builtin.clear_, Sem.run_bind, r_und w hu, undef]
  · cases hop; cases hx
    refine ⟨_, w, cx, ?_, VRep.un _ _ _, R, .refl _ _ _, .rfl⟩
    simp [Builtin.clear_, Sem.run_bind, r_und w hu, undef]
  · cases hop
    obtain ⟨-, ⟨-, rfl, -⟩ | ⟨a, cap, g, rfl, -⟩⟩ := hx.pu_flat'
    · refine ⟨_, w, cx, ?_, VRep.un _ _ _, R, .refl _ _ _, .rfl⟩
      simp [Builtin.clear_, Sem.run_bind, r_und w hu, undef]
    · refine ⟨_, w, cx, ?_, VRep.un _ _ _, R, .refl _ _ _, .rfl⟩
      simp [Builtin.clear_, Sem.run_bind, r_und w hu, undef]
  · rename_i z' l o n c
    split at hop
    · rename_i hn; subst hn
      cases hop; cases hx
      refine ⟨_, w, cx, ?_, VRep.un _ _ _, R, .refl _ _ _, .rfl⟩
      simp [Builtin.clear_, Sem.run_bind, r_und w hu, undef]
    · rename_i hn
      split at hop
      case h_2 => cases hop
      rename_i cs zf tyo hg
      split at hop
      case isFalse => cases hop
      rename_i hc
      obtain ⟨rfl, hz0, hlen, hzf⟩ := hc
      cases hop
      obtain ⟨u, e1, e2, e3, e4⟩ := r_zero (P := P) w hz
      have r0 : Row cx w.heap s.L z u.cells := ⟨e2, e3, fun j hj => e4 cx w.heap s.L j hj⟩
      have r1 := zero_row hz0 r0 n
      cases hx
      rename_i cap hl0 hk0 hc0
      obtain ⟨w', f1, f2, f3, f4⟩ := obj_store (P := P) R hg r1 (o := o) (by rw [rep_flat_len]; exact hlen) (.inr hzf)
      refine ⟨undef, w', cx, ?_, VRep.un _ _ _, f2, f3, f4⟩
      have hz' : Builtin.zeroCells u.cells n = (Array.range (n * z.length)).map (u.cells[· % u.cells.size]!) := by
        simp only [Builtin.zeroCells, e2]
      obtain ⟨m, rfl⟩ : ∃ m, n = m + 1 := ⟨n - 1, by omega⟩
      simp only [Builtin.clear_, Sem.run_bind, List.getElem?_toArray, List.getElem?_cons_zero, r_und w hu, Result.andThen_ok, e1, hz', f1, Sem.run_pure]
      rfl
  · cases hop

theorem sim_mdel (R : Rel cx s w.heap) {t t2 kt et ty : TypeId} {kk : KK} (hu : P.underlying t = some (.map kt et)) (hk : kkP P kt = some kk) {m k : V} {x y : Value} (hx : VRep cx w.heap s.L m x) (hy : VRep cx w.heap s.L k y) {v : V} {s' : St} (hop : mop s (.mdel kk) [m, k] = some (v, s')) :
    Ok ((Builtin.delete_ #[t, t2] ty #[x, y]).run P w) cx s w v s' := by
  simp only [mop] at hop
  split at hop
  case isFalse => cases hop
  rename_i hko
  split at hop
  · cases hop; cases hx
    refine ⟨_, w, cx, ?_, VRep.un _ _ _, R, .refl _ _ _, .rfl⟩
    simp [Builtin.delete_, Sem.run_bind, r_und w hu, chk_key hk hy hko, undef]
  · rename_i l
    split at hop
    case h_2 => cases hop
    rename_i es clk hg
    cases hx
    obtain ⟨ml, g1, g2⟩ := obj_x R hg
    split at hop
    · rename_i i u0 hf
      cases hop
      obtain ⟨res', h1, h2⟩ := find_run hk hy g2 hf
      cases res' with
      | none => exact h2.elim
      | some p =>
        obtain ⟨j, ux⟩ := p
        obtain ⟨rfl, -⟩ := h2
        obtain ⟨R', E'⟩ := put_map R hg (es.eraseIdx i) clk (ml.eraseIdx i) (erase_rep g2 i)
        refine ⟨_, { w with heap := _ }, cx, ?_, VRep.un _ _ _, R', E', ⟨rfl, rfl⟩⟩
        simp [Builtin.delete_, Sem.run_bind, r_und w hu, chk_key hk hy hko, r_getMap g1, h1, r_setMap _ g1, undef]
        try rfl
    · rename_i hf
      cases hop
      obtain ⟨res', h1, h2⟩ := find_run hk hy g2 hf
      cases res' with
      | some _ => exact h2.elim
      | none =>
        obtain ⟨R', E'⟩ := put_map R hg es clk ml g2
        refine ⟨_, { w with heap := _ }, cx, ?_, VRep.un _ _ _, R', E', ⟨rfl, rfl⟩⟩
        simp [Builtin.delete_, Sem.run_bind, r_und w hu, chk_key hk hy hko, r_getMap g1, h1, r_setMap _ g1, undef]
        try rfl
    · cases hop
  · cases hop


theorem sim_rng (R : Rel cx s w.heap) {t kt et : TypeId} (hu : P.underlying t = some (.map kt et)) {m : V} {x : Value} (hx : VRep cx w.heap s.L m x) {v : V} {s' : St} (hop : mop s .rng [m] = some (v, s')) :
    Ok ((Instr.range t x).run P w) cx s w v s' := by
  have key : ∀ (lm : Option Nat) (since last : Nat), (∀ k, lm = some k → s.L k) → (Instr.range t x).run P w = .ok (.pointer (some ⟨w.heap.size, 0, none⟩)) { w with heap := w.heap.push (.mapIter (lm.map fun l => (cx.r l).b) since #[] last) } → v = .p s.n 0 → s' = s.new (.x (.it lm since [] last)) → Ok ((Instr.range t x).run P w) cx s w v s' := fun lm since last hl hr hv hs => by
    subst hv; subst hs
    obtain ⟨cx', c1, c2, c3⟩ := R.newX (.it lm since [] last) (.mapIter (lm.map fun l => (cx.r l).b) since #[] last) (fun cx' hc L => ⟨by
      cases lm with
      | none => simp
      | some k => simp only [Option.map_some]; rw [L.r k (hl k rfl)]; simp, fun k hk => L.nle _ (hl k hk)⟩)
    refine ⟨_, { w with heap := w.heap.push (.mapIter (lm.map fun l => (cx.r l).b) since #[] last) }, cx', hr, ?_, c2, c3, ⟨rfl, rfl⟩⟩
    have := VRep.p (cx := cx') (h := w.heap.push (.mapIter (lm.map fun l => (cx.r l).b) since #[] last)) (n := (s.new (.x (.it lm since [] last))).L) s.n 0 (St.new_L0 _ R.gl)
    rwa [c1] at this
  simp only [mop] at hop
  split at hop
  · cases hop; cases hx
    exact key none 0 0 (fun k hk => by cases hk) (by simp [Instr.range, Sem.run_bind, r_und w hu, newObj, Sem.run, Result.andThen]) rfl rfl
  · split at hop
    · rename_i es clk hg
      cases hop; cases hx
      rename_i l _ hl
      obtain ⟨ml, g1, g2⟩ := obj_x R hg
      exact key (some l) clk clk (fun k hk => by cases hk; exact hl) (by simp [Instr.range, Sem.run_bind, r_und w hu, r_getMap g1, newObj, Sem.run, Result.andThen]) rfl rfl
    · cases hop
  · cases hop

theorem filter_rep {h : Array Obj} {n : Nat → Prop} {p : V × V × Nat → Bool} {q : MapEntry → Bool} (hpq : ∀ x y, ER cx h n x y → p x = q y) : ∀ {es : List (V × V × Nat)} {l : List MapEntry}, All2 (ER cx h n) es l → All2 (ER cx h n) (es.filter p) (l.filter q)
  | _, _, .nil => .nil
  | _, _, .cons hr t => by
    rename_i a b l m
    simp only [List.filter_cons, hpq a b hr]
    split
    · exact .cons hr (filter_rep hpq t)
    · exact filter_rep hpq t

theorem all_rep {h : Array Obj} {n : Nat → Prop} {p : V × V × Nat → Bool} {q : MapEntry → Bool} (hpq : ∀ x y, ER cx h n x y → p x = q y) : ∀ {es : List (V × V × Nat)} {l : List MapEntry}, All2 (ER cx h n) es l → es.all p = l.all q
  | _, _, .nil => rfl
  | _, _, .cons hr t => by simp only [List.all_cons, hpq _ _ hr, all_rep hpq t]

theorem sim_nxt (R : Rel cx s w.heap) {t : TypeId} {m : V} {x : Value} (hx : VRep cx w.heap s.L m x) {v : V} {s' : St} (hop : mop s .nxt [m] = some (v, s')) :
    Ok ((Instr.next x false t).run P w) cx s w v s' := by
  have over : ∀ {cx' : Cx} {h' : Array Obj} {n' : Nat → Prop}, VRep cx' h' n' (.tu [.b false]) (.tuple #[.bool false]) := by
    intro cx' h' n'
    refine .tu _ _ rfl (fun j hj => ?_)
    match j, hj with
    | 0, _ => exact .b false
  simp only [mop] at hop
  split at hop
  case h_2 => cases hop
  rename_i r
  cases hx
  rename_i hr
  split at hop
  · rename_i a sn c hg
    cases hop
    have g : w.heap[(cx.r r).b]? = some (.mapIter none a sn.toArray c) := by simpa using (obj_x R hg).1
    have hd : (cx.r r).d + 0 = 0 := by rw [obj_d R hg]
    rw [hd]
    exact ⟨_, w, cx, by simp [Instr.next, Sem.run_bind, r_getIt g], over, R, .refl _ _ _, .rfl⟩
  · rename_i l since seen last hg
    have hd : (cx.r r).d + 0 = 0 := by rw [obj_d R hg]
    rw [hd]
    have g : w.heap[(cx.r r).b]? = some (.mapIter (some (cx.r l).b) since seen.toArray last) := by simpa using (obj_x R hg).1
    split at hop
    case h_2 => cases hop
    rename_i es clk hg2
    obtain ⟨ml, g1, g2⟩ := obj_x R hg2
    split at hop
    · cases hop
    rename_i hbad
    have e1 : All2 (ER cx w.heap s.L) (es.filter fun x => !seen.contains x.2.2) (ml.filter fun e => !seen.contains e.born) := filter_rep (fun x y hx => by rw [hx.1]) g2
    have e2 := filter_rep (p := fun x => decide (x.2.2 < since)) (q := fun e => decide (e.born < since)) (fun x y hx => by rw [hx.1]) e1
    have e3 := filter_rep (p := fun x => decide (since ≤ x.2.2)) (q := fun e => decide (e.born ≥ since)) (fun x y hx => by rw [hx.1]) e1
    have hbad2 : (!seen.toArray.isEmpty && !ml.toArray.isEmpty && ml.toArray.all (fun e => decide (e.born ≥ last))) = false := by
      have h1 := all_rep (p := fun x => decide (last ≤ x.2.2)) (q := fun e => decide (e.born ≥ last)) (fun x y hx => by rw [hx.1]) g2
      have h2 : es.isEmpty = ml.isEmpty := by cases g2 <;> rfl
      rw [h1, h2] at hbad
      rw [Bool.eq_false_iff]
      intro hc
      apply hbad
      simpa using hc
    have hfilt : ∀ (L : List MapEntry) (q : MapEntry → Bool), L.toArray.filter q = (L.filter q).toArray := fun L q => by simp
    split at hop
    · rename_i ho hn
      rw [ho] at e2; rw [hn] at e3
      cases hop
      refine ⟨_, w, cx, ?_, over, R, .refl _ _ _, .rfl⟩
      simp only [Instr.next, Sem.run_bind, r_getIt g, r_getMap g1, Result.andThen_ok, hbad2, Bool.false_eq_true, if_false, List.contains_toArray, hfilt, e2.inv_nil, e3.inv_nil]
      simp [choose, Sem.run, Question.forced]
    · rename_i k u b ho hn
      rw [ho] at e2; rw [hn] at e3
      cases hop
      obtain ⟨en, m', h1, h2, h3⟩ := e2.inv_cons
      have h4 := h3.inv_nil
      subst h4
      obtain ⟨R', E'⟩ := R.updX hg (.it (some l) since (seen ++ [b]) clk) (.mapIter (some (cx.r l).b) since (seen.toArray.push en.born) clk) (fun L => ⟨by
        have := (Array.getElem?_eq_some_iff.1 g).1
        have hb : en.born = b := h2.1
        simp [this, hb], fun k hk => (obj_x R hg).2 k hk⟩) (fun _ _ _ => by simp)
      refine ⟨.tuple #[.bool true, en.key, en.val], { w with heap := w.heap.setIfInBounds (cx.r r).b (.mapIter (some (cx.r l).b) since (seen.toArray.push en.born) clk) }, cx, ?_, ?_, R', E', ⟨rfl, rfl⟩⟩
      · simp only [Instr.next, Sem.run_bind, r_getIt g, r_getMap g1, Result.andThen_ok, hbad2, Bool.false_eq_true, if_false, List.contains_toArray, hfilt, h1, e3.inv_nil]
        simp [choose, Sem.run, Question.forced, setObj, g]
      · refine .tu _ _ rfl (fun j hj => ?_)
        match j, hj with
        | 0, _ => exact .b true
        | 1, _ => exact h2.2.1.later E'.later
        | 2, _ => exact h2.2.2.later E'.later
    · cases hop
  · cases hop

theorem sim_ery (R : Rel cx s w.heap) {m : V} {x : Value} (hx : VRep cx w.heap s.L m x) {v : V} {s' : St} (hop : mop s .ery [m] = some (v, s')) :
    Ok ((Instr.entry x).run P w) cx s w v s' := by
  simp only [mop] at hop
  split at hop
  case h_2 => cases hop
  rename_i r
  cases hx
  rename_i hr
  split at hop
  case h_2 => cases hop
  rename_i l since seen last hg
  have hd : (cx.r r).d + 0 = 0 := by rw [obj_d R hg]
  rw [hd]
  have g : w.heap[(cx.r r).b]? = some (.mapIter (some (cx.r l).b) since seen.toArray last) := by simpa using (obj_x R hg).1
  split at hop
  case h_2 => cases hop
  rename_i es clk hg2
  obtain ⟨ml, g1, g2⟩ := obj_x R hg2
  split at hop
  case isFalse => cases hop
  rename_i hcl
  subst hcl
  split at hop
  case h_2 => cases hop
  rename_i b hb
  split at hop
  case h_2 => cases hop
  rename_i k u hbk
  cases hop
  obtain ⟨en, h1, h2, h3⟩ := bornAt_rep g2 hbk
  refine ⟨.tuple #[en.key, en.val], w, cx, ?_, ?_, R, .refl _ _ _, .rfl⟩
  · have hb2 : seen.toArray.back? = some b := by simpa using hb
    simp only [Instr.entry, Sem.run_bind, r_getIt g, r_getMap g1, Result.andThen_ok, hb2, bne_self_eq_false, Bool.false_eq_true, if_false, List.find?_toArray, h1, Sem.run_pure]
  · refine .tu _ _ rfl (fun j hj => ?_)
    match j, hj with
    | 0, _ => exact h2
    | 1, _ => exact h3

theorem sim_ta (R : Rel cx s w.heap) {t xt : TypeId} {d : TypeDesc} (hu : P.underlying t = some d) (hd : ∀ m, d ≠ .interface m) {z : V} {ok : Bool} (hz : ok = true → zeroV P t = some z) {m : V} {x : Value} (hx : VRep cx w.heap s.L m x) {v : V} {s' : St} (hop : mop s (.ta t ok z) [m] = some (v, s')) :
    Ok ((Instr.typeAssert x xt t ok).run P w) cx s w v s' := by
  have tup : ∀ (u : V) (ux : Value) (b : Bool), VRep cx w.heap s.L u ux → VRep cx w.heap s.L (.tu [u, .b b]) (.tuple #[ux, .bool b]) := fun u ux b hu => by
    refine .tu _ _ rfl (fun j hj => ?_)
    match j, hj with
    | 0, _ => simpa using hu
    | 1, _ => exact .b b
  simp only [mop] at hop
  split at hop
  · split at hop
    · rename_i hok
      cases hop; cases hx
      obtain ⟨zx, hz1, hz2⟩ := zeroV_rep (P := P) (w := w) (hz hok) cx w.heap s.L
      refine ⟨_, w, cx, ?_, tup z zx false hz2, R, .refl _ _ _, .rfl⟩
      subst hok
      cases d with
      | interface m => exact (hd _ rfl).elim
      | _ => simp [Instr.typeAssert, Sem.run_bind, r_und w hu, hz1]
    · cases hop
  · rename_i t' u
    cases hx
    rename_i ux hux
    split at hop
    · rename_i htt
      cases hop
      subst htt
      refine ⟨if ok then .tuple #[ux, .bool true] else ux, w, cx, ?_, ?_, R, .refl _ _ _, .rfl⟩
      · cases d with
        | interface m => exact (hd _ rfl).elim
        | _ => simp [Instr.typeAssert, Sem.run_bind, r_und w hu]
      · cases ok with
        | false => simpa using hux
        | true => simpa using tup u ux true hux
    · rename_i htt
      split at hop
      · rename_i hok
        cases hop
        obtain ⟨zx, hz1, hz2⟩ := zeroV_rep (P := P) (w := w) (hz hok) cx w.heap s.L
        refine ⟨_, w, cx, ?_, tup z zx false hz2, R, .refl _ _ _, .rfl⟩
        subst hok
        cases d with
        | interface m => exact (hd _ rfl).elim
        | _ => simp [Instr.typeAssert, Sem.run_bind, r_und w hu, hz1, htt]
      · cases hop
  · cases hop

end
end Rf
