/-
  Bytes and strings; what two values' comparison gives.
-/
import Derived.Test.YtklgkdehnaecnaaDoorRfJ
import Derived.Laws.BytesString
set_option linter.all false
set_option linter.unusedSimpArgs false
namespace Rf
open Go

section
variable {P : Program} {w : World} {cx : Cx} {s : St} {e : List V} {act : Act}

theorem freeze_push (w : World) (arr : Array Value) (el : TypeId) (b : Nat) (hb : b = w.heap.size) :
    ({ w with heap := w.heap.push (.cells arr el) } : World).freeze { block := b, off := arr.size } 1 = { w with heap := w.heap.push (.cells arr el (arr.size, arr.size + 1)) } := by
  subst hb
  simp only [World.freeze, Nat.one_ne_zero, if_false]
  congr 1
  apply Array.ext_getElem?
  intro i
  rw [Array.getElem?_modify]
  by_cases hi : w.heap.size = i
  · subst hi; simp
  · rw [if_neg hi]
    simp only [Array.getElem?_push]
    simp [Ne.symm hi]

theorem bytes_row {h : Array Obj} {m : Nat → Prop} (l : List UInt8) (rest : Array Value) :
    Row cx h m (bytesOf l) ((⟨l.toArray⟩ : ByteArray).data.map fun b => Value.int .u8 b.toNat) := by
  have key : ∀ j, j < l.length → ((⟨l.toArray⟩ : ByteArray).data.map fun b => Value.int .u8 b.toNat).getD j undef = .int .u8 (l.getD j 0).toNat := fun j hj => by
    simp [Array.getD_eq_getD_getElem?, hj, List.getD]
  refine ⟨by simp [bytesOf], fun j hj => ?_, fun j hj => ?_⟩
  · have hj' : j < l.length := by simpa [bytesOf] using hj
    rw [key j hj']; rfl
  · have hj' : j < l.length := by simpa [bytesOf] using hj
    rw [key j hj']
    have : (bytesOf l).getD j .bad = .i .u8 (l.getD j 0).toNat := by simp [bytesOf, List.getD, hj']
    rw [this]; exact .i _ _

theorem sim_s2b (R : Rel cx s w.heap) {t t' el : TypeId} {wh : Bool} (hu : P.underlying t = some .string) (hu' : P.underlying t' = some (.slice el)) (hel : P.underlying el = some (.int .u8)) {a : Arg} {x : Value} (hx : VRep cx w.heap s.L (a.ev e) x)
    {v : V} {s' : St} (hop : aop e s (.s2b el wh a) = some (v, s')) : Ok ((convert t t' x).run P w) cx s w v s' := by
  simp only [aop] at hop
  split at hop
  · rename_i l hea
    rw [hea] at hx; cases hx
    have hsz : (⟨l.toArray⟩ : ByteArray).size = l.length := by simp [ByteArray.size]
    have hrow := bytes_row (cx := cx) (h := w.heap) (m := s.L) l #[]
    have hlen : (bytesOf l).length = l.length := by simp [bytesOf]
    generalize hE : (⟨l.toArray⟩ : ByteArray).data.map (fun b => Value.int .u8 b.toNat) = E at hrow
    obtain ⟨m1, m2⟩ := hrow.more (Array.replicate (w.tape w.drawn (.appendCap l.length 0 el) % (2 ^ 63 - l.length)) (.int .u8 0))
    have hEs : E.size = l.length := by rw [hrow.len, hlen]
    generalize hA : E ++ Array.replicate (w.tape w.drawn (.appendCap l.length 0 el) % (2 ^ 63 - l.length)) (Value.int .u8 0) = A at m1 m2
    have hAs : A.size = l.length + w.tape w.drawn (.appendCap l.length 0 el) % (2 ^ 63 - l.length) := by rw [← hA]; simp [hEs]
    have hrun : (convert t t' (.string ⟨l.toArray⟩)).run P w = .ok (.slice (some ⟨w.heap.size, 0, none⟩) l.length A.size) { w with drawn := w.drawn + 1, heap := w.heap.push (.cells A el (A.size, A.size + 1)) } := by
      have hq : (Question.appendCap l.length 0 el).forced = false := rfl
      simp only [convert, Sem.run_bind, r_und w hu, r_und w hu', Result.andThen_ok, r_und w hel, Conv.stringToBytes, hsz, run_choose, hq, Bool.false_eq_true, if_false, Question.cut, hE, Nat.add_sub_cancel_left, hA, newRow_run]
      simp only [markStringish, Sem.run_bind, run_shape, World.shape?, Array.getElem?_push_size, Result.andThen_ok, run_freeze, Sem.run_pure]
      rw [freeze_push { w with drawn := w.drawn + 1 } A el _ rfl, hAs]
    rw [hrun]
    split at hop
    · cases hop
      obtain ⟨cx', c1, c2, c3⟩ := R.imm A el (A.size, A.size + 1)
      refine ⟨_, _, cx', rfl, ?_, c2, c3, ⟨rfl, rfl⟩⟩
      have hflat : ((bytesOf l).map V.cells).flatten = bytesOf l := by
        have : (bytesOf l).map V.cells = (bytesOf l).map fun x => [x] := by
          apply List.map_congr_left
          intro x hx
          simp only [bytesOf, List.mem_map] at hx
          obtain ⟨b, -, rfl⟩ := hx
          rfl
        rw [this]
        induction bytesOf l with
        | nil => rfl
        | cons x xs ih => simp [ih]
      have := VRep.pu_flat (cx := cx') (h := w.heap.push (.cells A el (A.size, A.size + 1))) (m := s.L) (sz := 1) (xs := bytesOf l) (c := .u) (b := w.heap.size) (d := 0) (cap := A.size) (fun j => A.getD j undef)
        (fun x hx => by simp only [bytesOf, List.mem_map] at hx; obtain ⟨b, -, rfl⟩ := hx; rfl) (fun j hj => m1 j (by simpa using hj)) (fun j hj => by rw [Nat.zero_add]; exact c1 j (by rw [hlen] at hj; omega))
        (fun j hj => by
          rw [cellAt_push_new, Nat.zero_add]
          have : j < A.size := by rw [hlen] at hj; omega
          simp [Array.getD_eq_getD_getElem?, this])
        (fun j hj => by rw [hflat]; exact (m2 j (by simpa using hj)).later c3.later) (by rw [hlen]; omega) trivial
      rwa [hlen] at this
    · cases hop
      obtain ⟨cx', q1, q2, q3⟩ := R.newF (bytesOf l) A el A.size (A.size + 1) (fun j hj => by omega) (by rw [hlen]; omega) m1 m2
      refine ⟨_, _, cx', rfl, ?_, q2, q3, ⟨rfl, rfl⟩⟩
      have : VRep cx' (w.heap.push (.cells A el (A.size, A.size + 1))) (s.new (.c (bytesOf l) 0 none)).L (.sl 1 s.n 0 l.length none) (.slice (some ⟨(cx'.r s.n).b, (cx'.r s.n).d + 0, none⟩) l.length A.size) :=
        .sl 1 s.n 0 l.length none A.size (St.new_L0 _ R.gl) (by omega) ⟨by rw [q1]; simp only [hlen]; omega, by rw [q1]; simp⟩
      rw [q1] at this
      simpa using this
  · cases hop

theorem toBytes_rep {h : Array Obj} {m : Nat → Prop} : ∀ (cs : List V) (bs : List UInt8), toBytes cs = some bs → ∀ (xs : List Value), xs.length = cs.length → (∀ j, j < cs.length → VRep cx h m (cs.getD j .bad) (xs.getD j undef)) →
    ∃ ns : List Int, xs = ns.map (Value.int .u8) ∧ bs = ns.map fun n => UInt8.ofNat n.toNat
  | [], bs, hb, xs, hl, _ => by
    simp [toBytes] at hb; subst hb
    exact ⟨[], by simpa using hl, rfl⟩
  | c :: cs, bs, hb, xs, hl, hr => by
    unfold toBytes at hb
    split at hb
    · rename_i h; cases h
    · rename_i n r he
      cases he
      simp only [Option.map_eq_some_iff] at hb
      obtain ⟨bs', h1, rfl⟩ := hb
      cases xs with
      | nil => simp at hl
      | cons x xs =>
        have h0 := hr 0 (by simp)
        simp only [List.getD_cons_zero] at h0
        cases h0
        obtain ⟨ns, e1, e2⟩ := toBytes_rep cs bs' h1 xs (by simpa using hl) (fun j hj => by simpa using hr (j + 1) (by simpa using hj))
        exact ⟨n :: ns, by simp [e1], by simp [e2]⟩
    · cases hb

theorem fold_bytes (ns : List Int) : ∀ acc : ByteArray, ns.foldl (fun r n => r.push (UInt8.ofNat n.toNat)) acc = ⟨acc.data ++ (ns.map fun n => UInt8.ofNat n.toNat).toArray⟩ := by
  induction ns with
  | nil => intro acc; simp
  | cons n ns ih =>
    intro acc
    rw [List.foldl_cons, ih]
    congr 1
    apply Array.ext'
    simp [ByteArray.push]

theorem sim_b2s (R : Rel cx s w.heap) {t t' el : TypeId} (hu : P.underlying t = some (.slice el)) (hel : P.underlying el = some (.int .u8)) (hu' : P.underlying t' = some .string) {a : Arg} {x : Value} (hx : VRep cx w.heap s.L (a.ev e) x)
    {v : V} {s' : St} (hop : aop e s (.b2s a) = some (v, s')) : Ok ((convert t t' x).run P w) cx s w v s' := by
  -- any slice whose cells are known
  have key : ∀ (k : Nat) (new : List V) (bs : List UInt8), srcOf s 1 (a.ev e) = some (k, new) → (∀ l, a.ev e ≠ .s l) → a.ev e ≠ .ns → toBytes new = some bs → Ok ((convert t t' x).run P w) cx s w (.s bs) s := by
    intro k new bs hsrc hns hns' hb
    obtain ⟨base, cap, rfl⟩ := slice_shape R hx hsrc hns
    obtain ⟨-, hnl, hrow⟩ := r_src (P := P) R hx hsrc
    obtain ⟨arr, h1, h2⟩ := hrow k (Nat.le_refl _)
    rw [← hnl, List.take_length] at h2
    obtain ⟨ns, e1, e2⟩ := toBytes_rep new bs hb arr.toList (by simp [h2.len]) (fun j hj => by
      have := h2.rep j hj
      have hj' : j < arr.size := by rw [h2.len]; exact hj
      simpa [Array.getD_eq_getD_getElem?, hj', List.getD] using this)
    rw [run_convert_bytes_string w t t' el base k cap hu hel hu']
    cases base with
    | none =>
      have : arr = #[] := by simp only [Builtin.firstCells, Sem.run_pure] at h1; cases h1; rfl
      subst this
      have hns0 : ns = [] := by simpa using e1.symm
      subst hns0
      refine ⟨.string .empty, w, cx, rfl, ?_, R, .refl _ _ _, .rfl⟩
      rw [e2]; exact .s []
    | some ad =>
      have h1' : (loadCells ad k).run P w = .ok (ns.map (Value.int .u8)).toArray w := by
        simp only [Builtin.firstCells, Nat.mul_one] at h1
        rw [h1]; congr 1
        apply Array.ext'; simp [e1]
      refine ⟨_, w, cx, run_bytesToString w ad k cap ns h1', ?_, R, .refl _ _ _, .rfl⟩
      rw [fold_bytes, e2]
      have : (ByteArray.empty.data ++ (ns.map fun n => UInt8.ofNat n.toNat).toArray) = (ns.map fun n => UInt8.ofNat n.toNat).toArray := by
        apply Array.ext'
        rw [Array.toList_append]
        rfl
      rw [this]
      exact .s _
  simp only [aop] at hop
  split at hop
  · rename_i hea
    rw [hea] at hx; cases hop; cases hx
    rw [run_convert_bytes_string w t t' el none 0 0 hu hel hu']
    exact ⟨.string .empty, w, cx, rfl, .s [], R, .refl _ _ _, .rfl⟩
  · rename_i z l o n c hea
    split at hop
    · rename_i cs zf ty0 hg
      split at hop
      · rename_i hc
        obtain ⟨rfl, hle⟩ := hc
        simp only [Option.map_eq_some_iff] at hop
        obtain ⟨bs, h1, h2⟩ := hop
        cases h2
        exact key n ((cs.drop o).take n) bs (by rw [hea]; simp [srcOf, hg, hle]) (by rw [hea]; simp) (by rw [hea]; simp) h1
      · cases hop
    · cases hop
  · rename_i z xs c hea
    split at hop
    · rename_i hz; subst hz
      simp only [Option.map_eq_some_iff] at hop
      obtain ⟨bs, h1, h2⟩ := hop
      cases h2
      exact key xs.length _ bs (by rw [hea]; simp [srcOf]) (by rw [hea]; simp) (by rw [hea]; simp) h1
    · cases hop
  · cases hop

/-! comparisons -/
theorem veqs_append : ∀ (k1 k2 : List LK) (a1 b1 a2 b2 : List V), a1.length = k1.length → b1.length = k1.length → veqs (k1 ++ k2) (a1 ++ a2) (b1 ++ b2) = match veqs k1 a1 b1 with | some true => veqs k2 a2 b2 | r => r
  | [], _, [], [], _, _, _, _ => by simp [veqs]
  | [], _, _ :: _, _, _, _, h, _ => by simp at h
  | [], _, [], _ :: _, _, _, _, h => by simp at h
  | _ :: _, _, [], _, _, _, h, _ => by simp at h
  | _ :: _, _, _ :: _, [], _, _, _, h => by simp at h
  | k :: k1, k2, x :: a1, y :: b1, a2, b2, h, h' => by
    have ih := veqs_append k1 k2 a1 b1 a2 b2 (by simpa using h) (by simpa using h')
    simp only [List.cons_append, veqs]
    cases hv : veq k x y with
    | none => rfl
    | some r => cases r with
      | false => rfl
      | true => exact ih

theorem veqs_one (k : LK) (x y : V) : veqs [k] [x] [y] = veq k x y := by
  simp only [veqs]
  cases veq k x y with
  | none => rfl
  | some r => cases r <;> rfl

/-- Two parts of one place and size are held against each other as their cells are. -/
def EqAt (P : Program) (w : World) (cx : Cx) (n : Nat → Prop) (t : TypeId) (ks : List LK) (D : Nat) : Prop :=
  ∀ (A B : List V) (X Y : Array Value) (o : Nat) (r : Bool), Row cx w.heap n A X → Row cx w.heap n B Y → o + ks.length ≤ A.length → o + ks.length ≤ B.length → veqs ks ((A.drop o).take ks.length) ((B.drop o).take ks.length) = some r →
    ∃ p q, (part t X o).run P w = .ok p w ∧ (part t Y o).run P w = .ok q w ∧ (Op.equalIn D t p q).run P w = .ok r w

theorem one_cell_part {n : Nat → Prop} {t : TypeId} (ha : agP P t = some false) {A : List V} {X : Array Value} (r : Row cx w.heap n A X) {o : Nat} (ho : o + 1 ≤ A.length) : ∃ v x, (A.drop o).take 1 = [v] ∧ (part t X o).run P w = .ok x w ∧ VRep cx w.heap n v x := by
  have hX : o < X.size := by rw [r.len]; omega
  refine ⟨A[o], X[o], ?_, ?_, ?_⟩
  · rw [List.drop_eq_getElem_cons (by omega)]; rfl
  · simp [part, r_isAgg w ha, Array.getElem?_eq_getElem hX]
  · have := r.rep o (by omega)
    have ho' : o < A.length := by omega
    simpa [List.getD, List.getElem?_eq_getElem ho', Array.getD_eq_getD_getElem?, hX] using this

theorem eqFs_split {go : TypeId → Option (List LK)} {o : Nat} {f : Field} {fs : List Field} {tot : List LK} (h : eqFs go P o (f :: fs) = some tot) : ∃ ks rest, go f.type = some ks ∧ f.name ≠ "_" ∧ f.offset = o ∧ szP P f.type = some ks.length ∧ eqFs go P (o + ks.length) fs = some rest ∧ tot = ks ++ rest := by
  simp only [eqFs] at h
  split at h
  · rename_i ks hk
    split at h
    · rename_i hc
      simp only [Option.map_eq_some_iff] at h
      obtain ⟨rest, h1, h2⟩ := h
      exact ⟨ks, rest, hk, hc.1, hc.2.1, hc.2.2, h1, h2.symm⟩
    · cases h
  · cases h

theorem eqFields_run {n : Nat → Prop} {d : Nat} (D : Nat) (hgo : ∀ t ks, eqTy P d t = some ks → szP P t = some ks.length → EqAt P w cx n t ks D) {A B : List V} {X Y : Array Value} (rA : Row cx w.heap n A X) (rB : Row cx w.heap n B Y) :
    ∀ (fs : List Field) (o : Nat) (tot : List LK), eqFs (eqTy P d) P o fs = some tot → A.length = o + tot.length → B.length = o + tot.length → ∀ r, veqs tot (A.drop o) (B.drop o) = some r → (Op.eqFields D X Y fs).run P w = .ok r w
  | [], o, tot, h, hA, hB, r, hv => by
    simp [eqFs] at h; subst h
    simp only [List.length_nil, Nat.add_zero] at hA hB
    rw [List.drop_of_length_le (by omega), List.drop_of_length_le (by omega)] at hv
    simp [veqs] at hv; subst hv
    rfl
  | f :: fs, o, tot, h, hA, hB, r, hv => by
    obtain ⟨ks, rest, hm, hname, hoff, hsz, hrest, rfl⟩ := eqFs_split h
    rw [List.length_append] at hA hB
    have hsA : A.drop o = (A.drop o).take ks.length ++ A.drop (o + ks.length) := by
      rw [← List.drop_drop, List.take_append_drop]
    have hsB : B.drop o = (B.drop o).take ks.length ++ B.drop (o + ks.length) := by
      rw [← List.drop_drop, List.take_append_drop]
    rw [hsA, hsB, veqs_append _ _ _ _ _ _ (by simp; omega) (by simp; omega)] at hv
    cases hv1 : veqs ks ((A.drop o).take ks.length) ((B.drop o).take ks.length) with
    | none => rw [hv1] at hv; cases hv
    | some r1 =>
      obtain ⟨p, q, e1, e2, e3⟩ := hgo f.type ks hm hsz A B X Y o r1 rA rB (by omega) (by omega) hv1
      rw [hv1] at hv
      simp only [Op.eqFields, hname, ne_eq, not_false_eq_true, if_true, Sem.run_bind, hoff, e1, e2, e3, Result.andThen_ok]
      cases r1 with
      | false => cases hv; rfl
      | true =>
        simp only [Bool.not_true, Bool.false_eq_true, if_false]
        exact eqFields_run D hgo rA rB fs (o + ks.length) rest hrest (by omega) (by omega) r hv

theorem eqStruct_run {n : Nat → Prop} {d D : Nat} {t : TypeId} {fs : Array Field} (hu : P.underlying t = some (.struct fs)) (hst : P.stoodInHeld t = false) (hgo : ∀ t ks, eqTy P d t = some ks → szP P t = some ks.length → EqAt P w cx n t ks D)
    {ks : List LK} (h : eqFs (eqTy P d) P 0 fs.toList = some ks) {A B : List V} {X Y : Array Value} (rA : Row cx w.heap n A X) (rB : Row cx w.heap n B Y) (hA : A.length = ks.length) (hB : B.length = ks.length) {r : Bool} (hv : veqs ks A B = some r) :
    (Op.equalIn (D + 1) t (.agg X) (.agg Y)).run P w = .ok r w := by
  have hf : P.fieldsOf t = fs := by simp [Program.fieldsOf, hu]
  rw [run_equalIn_struct w D t X Y (by rw [hf]; exact hu) hst, hf]
  exact eqFields_run D hgo rA rB fs.toList 0 ks h (by omega) (by omega) r (by simpa using hv)

theorem eqTy_run {n : Nat → Prop} : ∀ (d : Nat) (t : TypeId) (ks : List LK), eqTy P d t = some ks → szP P t = some ks.length → ∀ D, d ≤ D → EqAt P w cx n t ks D
  | 0, t, ks, h, _, _, _ => by simp [eqTy] at h
  | d + 1, t, ks, h, hsz, D, hD => by
    obtain ⟨D, rfl⟩ : ∃ D', D = D' + 1 := ⟨D - 1, by omega⟩
    unfold eqTy at h
    split at h
    · rename_i hu
      cases h
      intro A B X Y o r rA rB hA hB hv
      obtain ⟨v, x, h1, h2, h3⟩ := one_cell_part (P := P) (by simp [agP, hu] : agP P t = some false) rA hA
      obtain ⟨v', x', h1', h2', h3'⟩ := one_cell_part (P := P) (by simp [agP, hu] : agP P t = some false) rB hB
      simp only [List.length_singleton] at hv
      rw [h1, h1', veqs_one] at hv
      refine ⟨x, x', h2, h2', ?_⟩
      unfold veq at hv
      split at hv <;> first
        | (cases hv; done)
        | skip
      · cases hv; cases h3; cases h3'
        exact run_equalIn_bool' w D t _ _ hu
      all_goals contradiction
    · rename_i k hu
      cases h
      intro A B X Y o r rA rB hA hB hv
      obtain ⟨v, x, h1, h2, h3⟩ := one_cell_part (P := P) (by simp [agP, hu] : agP P t = some false) rA hA
      obtain ⟨v', x', h1', h2', h3'⟩ := one_cell_part (P := P) (by simp [agP, hu] : agP P t = some false) rB hB
      simp only [List.length_singleton] at hv
      rw [h1, h1', veqs_one] at hv
      refine ⟨x, x', h2, h2', ?_⟩
      unfold veq at hv
      split at hv <;> first
        | (cases hv; done)
        | skip
      · contradiction
      · split at hv
        · rename_i hk; subst hk; rw [eqZ_eq] at hv; cases hv; cases h3; cases h3'
          exact run_equalIn_int w D t _ _ _ _ hu
        · cases hv
      all_goals contradiction
    · rename_i hu
      cases h
      intro A B X Y o r rA rB hA hB hv
      obtain ⟨v, x, h1, h2, h3⟩ := one_cell_part (P := P) (by simp [agP, hu] : agP P t = some false) rA hA
      obtain ⟨v', x', h1', h2', h3'⟩ := one_cell_part (P := P) (by simp [agP, hu] : agP P t = some false) rB hB
      simp only [List.length_singleton] at hv
      rw [h1, h1', veqs_one] at hv
      refine ⟨x, x', h2, h2', ?_⟩
      unfold veq at hv
      split at hv <;> first
        | (cases hv; done)
        | skip
      · contradiction
      · contradiction
      · cases hv; cases h3; cases h3'
        rw [run_equalIn_string w D t _ _ hu, (bytesLess_list _ []).1, (bytesLess_list _ []).1]
      all_goals contradiction
    · rename_i fs hu
      split at h
      · cases h
      · rename_i hst
        intro A B X Y o r rA rB hA hB hv
        refine ⟨.agg (X.extract o (o + ks.length)), .agg (Y.extract o (o + ks.length)), ?_, ?_, ?_⟩
        · simp only [part, Sem.run_bind, r_isAgg w (by simp [agP, hu] : agP P t = some true), Result.andThen_ok, if_true, r_size w hsz, Sem.run_pure]
        · simp only [part, Sem.run_bind, r_isAgg w (by simp [agP, hu] : agP P t = some true), Result.andThen_ok, if_true, r_size w hsz, Sem.run_pure]
        · exact eqStruct_run hu (by simpa using hst) (fun t' ks' h' hs' => eqTy_run d t' ks' h' hs' D (by omega)) h (seg_row rA hA) (seg_row rB hB) (seg_len hA) (seg_len hB) hv
    · cases h

theorem run_eq_neq (P : Program) (w : World) (t : TypeId) (x y : Value) (op : BinOp) (hop : op = .eql ∨ op = .neq) (r : Bool) (hi : ∀ k a, x ≠ .int k a) (hs : ∀ s, x ≠ .string s) (hfl : ∀ k a, x ≠ .float k a) (hcp : ∀ k a b, x ≠ .complex k a b) (h : (Op.equal t x y).run P w = .ok r w) :
    (binOp op t x y).run P w = .ok (.bool (if isNeq op then !r else r)) w := by
  rcases hop with rfl | rfl
  · cases x <;> simp_all [binOp, Sem.run_bind, isNeq]
  · cases x <;> simp_all [binOp, Sem.run_bind, isNeq]

theorem guard_no (op : BinOp) (t : TypeId) (xo yo : Operand) (x y : Value) (h1 : x = .nilIface → y = .nilIface → isCn xo = true ∨ isCn yo = true) (h2 : ∀ a b, x = .agg a → y = .agg b → P.eqGuardType P.depth t = false) : (eqGuard op t xo yo x y).run P w = .ok () w := by
  have key : op ≠ .eql ∧ op ≠ .neq ∨ op = .eql ∨ op = .neq := by cases op <;> simp
  rcases key with ⟨k1, k2⟩ | h
  · cases op <;> first | rfl | contradiction
  · have : (eqGuard op t xo yo x y).run P w = (eqGuard .eql t xo yo x y).run P w := by rcases h with rfl | rfl <;> rfl
    rw [this]
    by_cases hn : x = .nilIface ∧ y = .nilIface
    · obtain ⟨rfl, rfl⟩ := hn
      rcases h1 rfl rfl with h | h
      · cases xo <;> simp_all [isCn, eqGuard]
      · cases yo <;> simp_all [isCn, eqGuard]
    · by_cases ha : ∃ a b, x = .agg a ∧ y = .agg b
      · obtain ⟨a, b, rfl, rfl⟩ := ha
        simp [eqGuard, h2 a b rfl rfl]
      · cases x <;> first | rfl | (cases y <;> first | rfl | simp_all)

theorem eqK_inv {t : TypeId} {xo yo : Operand} {kd : EK} (h : eqK P t xo yo = some kd) : match kd with
    | .p => ∃ el n, P.underlying t = some (.pointer el) ∧ szP P el = some n ∧ n ≠ 0
    | .s => ∃ el, P.underlying t = some (.slice el)
    | .i => (∃ m, P.underlying t = some (.interface m)) ∧ (isCn xo = true ∨ isCn yo = true)
    | .f => ∃ a b c, P.underlying t = some (.func a b c)
    | .m => ∃ a b, P.underlying t = some (.map a b)
    | _ => True := by
  unfold eqK at h
  split at h
  · cases h; trivial
  · cases h; trivial
  · cases h; trivial
  · split at h
    · split at h
      · cases h; trivial
      · cases h
    · cases h
  · rename_i el hu
    split at h
    · rename_i n hn
      split at h
      · rename_i h0; cases h; exact ⟨el, n, hu, hn, h0⟩
      · cases h
    · cases h
  · rename_i el hu; cases h; exact ⟨el, hu⟩
  · rename_i a b hu; cases h; exact ⟨a, b, hu⟩
  · rename_i a b c hu; cases h; exact ⟨a, b, c, hu⟩
  · rename_i m hu
    split at h
    · rename_i hc; cases h; exact ⟨⟨m, hu⟩, by simpa using hc⟩
    · cases h
  · cases h

set_option maxHeartbeats 1000000 in
theorem sim_eql (R : Rel cx s w.heap) {op : BinOp} (hop : op = .eql ∨ op = .neq) {t : TypeId} {xo yo : Operand} {kd : EK} (hk : eqK P t xo yo = some kd) {a b : Arg} {x y : Value} (hx : VRep cx w.heap s.L (a.ev e) x) (hy : VRep cx w.heap s.L (b.ev e) y)
    {v : V} {s' : St} (hop' : aop e s (.eql (isNeq op) kd a b) = some (v, s')) : Ok ((do eqGuard op t xo yo x y; binOp op t x y).run P w) cx s w v s' := by
  simp only [aop, Option.map_eq_some_iff] at hop'
  obtain ⟨r, hr, h2⟩ := hop'
  cases h2
  generalize a.ev e = av at *
  generalize b.ev e = bv at *
  suffices h : (eqGuard op t xo yo x y).run P w = .ok () w ∧ (binOp op t x y).run P w = .ok (.bool (if isNeq op then !r else r)) w by
    refine ⟨_, w, cx, ?_, .b _, R, .refl _ _ _, .rfl⟩
    simp only [Sem.run_bind, h.1, Result.andThen_ok, h.2]
  have fin : (x ≠ .nilIface ∨ y ≠ .nilIface) → ((∀ c, x ≠ .agg c) ∨ (∀ c, y ≠ .agg c)) → (∀ k a, x ≠ .int k a) → (∀ s, x ≠ .string s) → (∀ k a, x ≠ .float k a) → (∀ k a b, x ≠ .complex k a b) → (Op.equal t x y).run P w = .ok r w →
      (eqGuard op t xo yo x y).run P w = .ok () w ∧ (binOp op t x y).run P w = .ok (.bool (if isNeq op then !r else r)) w := fun h1 h2 hi hs hf hc h =>
    ⟨guard_no op t xo yo x y (fun e1 e2 => by rcases h1 with h1 | h1 <;> contradiction) (fun c1 c2 e1 e2 => by rcases h2 with h2 | h2; exact (h2 _ e1).elim; exact (h2 _ e2).elim), run_eq_neq P w t x y op hop r hi hs hf hc h⟩
  unfold peq at hr
  split at hr
  · -- ints
    split at hr
    · rename_i hkk; subst hkk; rw [eqZ_eq] at hr; cases hr; cases hx; cases hy
      refine ⟨guard_no _ _ _ _ _ _ (by simp) (by simp), ?_⟩
      rcases hop with rfl | rfl <;> simp [binOp, Op.intCmp, bne, isNeq]
    · cases hr
  · cases hr; cases hx; cases hy
    refine ⟨guard_no _ _ _ _ _ _ (by simp) (by simp), ?_⟩
    rcases hop with rfl | rfl <;> simp [binOp, Op.stringOp, (bytesLess_list _ []).1, isNeq]
  · cases hr; cases hx; cases hy
    have hu : P.underlying t = some .bool := by
      unfold eqK at hk
      split at hk <;> first | assumption | (cases hk; done) | (split at hk <;> first | (cases hk; done) | (split at hk <;> cases hk))
    exact fin (by simp) (by simp) (by simp) (by simp) (by simp) (by simp) (run_equalIn_bool' w 9999 t _ _ hu)
  · rename_i ks A B
    split at hr
    · rename_i hl
      obtain ⟨fs, hu, hty, hg⟩ : ∃ fs, P.underlying t = some (.struct fs) ∧ eqTy P 20 t = some ks ∧ P.eqGuardType P.depth t = false := by
        unfold eqK at hk
        split at hk <;> first | (cases hk; done) | skip
        · rename_i fs hu
          split at hk
          · rename_i ks' h1
            split at hk
            · rename_i h2; cases hk; exact ⟨fs, hu, h1, by simpa using h2⟩
            · cases hk
          · cases hk
        · split at hk
          · split at hk <;> cases hk
          · cases hk
        · split at hk <;> cases hk
      have rx := hx.row rfl
      have ry := hy.row rfl
      cases hx; cases hy
      refine ⟨guard_no _ _ _ _ _ _ (by simp) (fun _ _ _ _ => hg), run_eq_neq P w t _ _ op hop r (by simp) (by simp) (by simp) (by simp) ?_⟩
      have hty' : eqTy P (19 + 1) t = some ks := hty
      rw [eqTy] at hty'
      simp only [hu] at hty'
      split at hty'
      · cases hty'
      · rename_i hst
        exact eqStruct_run (D := 9999) hu (by simpa using hst) (fun t' ks' h' hs' => eqTy_run 19 t' ks' h' hs' 9999 (by omega)) hty' rx ry hl.1 hl.2 hr
    · cases hr
  -- pointers
  · obtain ⟨el, n, hu, hn, h0⟩ := eqK_inv hk
    cases hr; cases hx; cases hy
    exact fin (by simp) (by simp) (by simp) (by simp) (by simp) (by simp) (by show (Op.equalIn (9999 + 1) t _ _).run P w = _; rw [Op.equalIn]; simp only [Sem.run_bind, r_und w hu, Result.andThen_ok, Sem.run_pure, Option.isNone_none, Option.isNone_some])
  · obtain ⟨el, n, hu, hn, h0⟩ := eqK_inv hk
    cases hr; cases hx; cases hy
    exact fin (by simp) (by simp) (by simp) (by simp) (by simp) (by simp) (by show (Op.equalIn (9999 + 1) t _ _).run P w = _; rw [Op.equalIn]; simp only [Sem.run_bind, r_und w hu, Result.andThen_ok, Sem.run_pure, Option.isNone_none, Option.isNone_some])
  · obtain ⟨el, n, hu, hn, h0⟩ := eqK_inv hk
    cases hr; cases hx; cases hy
    exact fin (by simp) (by simp) (by simp) (by simp) (by simp) (by simp) (by show (Op.equalIn (9999 + 1) t _ _).run P w = _; rw [Op.equalIn]; simp only [Sem.run_bind, r_und w hu, Result.andThen_ok, Sem.run_pure, Option.isNone_none, Option.isNone_some])
  · obtain ⟨el, n, hu, hn, h0⟩ := eqK_inv hk
    split at hr
    · rename_i hll; subst hll
      cases hr; cases hx; cases hy
      refine fin (by simp) (by simp) (by simp) (by simp) (by simp) (by simp) ?_
      show (Op.equalIn (9999 + 1) t _ _).run P w = _
      rw [Op.equalIn]
      simp only [Sem.run_bind, r_und w hu, Result.andThen_ok, r_size w hn, h0, ne_eq, not_false_eq_true, if_true, sameAddr, beq_self_eq_true]
      simp only [Sem.run_pure, Result.ok.injEq, and_true]
      rw [Bool.eq_iff_iff]
      simp
    · cases hr
  · obtain ⟨el, n, hu, hn, h0⟩ := eqK_inv hk
    cases hr; cases hx; cases hy
    exact fin (by simp) (by simp) (by simp) (by simp) (by simp) (by simp) (by show (Op.equalIn (9999 + 1) t _ _).run P w = _; rw [Op.equalIn]; simp only [Sem.run_bind, r_und w hu, Result.andThen_ok, Sem.run_pure, Option.isNone_none, Option.isNone_some])
  · obtain ⟨el, n, hu, hn, h0⟩ := eqK_inv hk
    cases hr; cases hx; cases hy
    exact fin (by simp) (by simp) (by simp) (by simp) (by simp) (by simp) (by show (Op.equalIn (9999 + 1) t _ _).run P w = _; rw [Op.equalIn]; simp only [Sem.run_bind, r_und w hu, Result.andThen_ok, Sem.run_pure, Option.isNone_none, Option.isNone_some])
  -- slices
  · obtain ⟨el, hu⟩ := eqK_inv hk
    cases hr; cases hx; cases hy
    exact fin (by simp) (by simp) (by simp) (by simp) (by simp) (by simp) (by show (Op.equalIn (9999 + 1) t _ _).run P w = _; rw [Op.equalIn]; simp only [Sem.run_bind, r_und w hu, Result.andThen_ok, Sem.run_pure, Option.isNone_none, Option.isNone_some])
  · obtain ⟨el, hu⟩ := eqK_inv hk
    cases hr; cases hx; cases hy
    exact fin (by simp) (by simp) (by simp) (by simp) (by simp) (by simp) (by show (Op.equalIn (9999 + 1) t _ _).run P w = _; rw [Op.equalIn]; simp only [Sem.run_bind, r_und w hu, Result.andThen_ok, Sem.run_pure, Option.isNone_none, Option.isNone_some])
  · obtain ⟨el, hu⟩ := eqK_inv hk
    cases hr; cases hx; cases hy
    exact fin (by simp) (by simp) (by simp) (by simp) (by simp) (by simp) (by show (Op.equalIn (9999 + 1) t _ _).run P w = _; rw [Op.equalIn]; simp only [Sem.run_bind, r_und w hu, Result.andThen_ok, Sem.run_pure, Option.isNone_none, Option.isNone_some])
  · obtain ⟨el, hu⟩ := eqK_inv hk
    cases hr; cases hx; cases hy
    exact fin (by simp) (by simp) (by simp) (by simp) (by simp) (by simp) (by show (Op.equalIn (9999 + 1) t _ _).run P w = _; rw [Op.equalIn]; simp only [Sem.run_bind, r_und w hu, Result.andThen_ok, Sem.run_pure, Option.isNone_none, Option.isNone_some])
  · obtain ⟨el, hu⟩ := eqK_inv hk
    cases hr; cases hx; cases hy
    exact fin (by simp) (by simp) (by simp) (by simp) (by simp) (by simp) (by show (Op.equalIn (9999 + 1) t _ _).run P w = _; rw [Op.equalIn]; simp only [Sem.run_bind, r_und w hu, Result.andThen_ok, Sem.run_pure, Option.isNone_none, Option.isNone_some])
  · obtain ⟨el, hu⟩ := eqK_inv hk
    cases hr; cases hy; cases hx
    · rename_i hc; exact (show False from hc).elim
    · exact fin (by simp) (by simp) (by simp) (by simp) (by simp) (by simp) (by show (Op.equalIn (9999 + 1) t _ _).run P w = _; rw [Op.equalIn]; simp only [Sem.run_bind, r_und w hu, Result.andThen_ok, Sem.run_pure, Option.isNone_none, Option.isNone_some])
  -- interface values
  · obtain ⟨⟨m, hu⟩, hc⟩ := eqK_inv hk
    cases hr; cases hx; cases hy
    exact ⟨guard_no _ _ _ _ _ _ (fun _ _ => hc) (by simp), run_eq_neq P w t _ _ op hop true (by simp) (by simp) (by simp) (by simp) (by show (Op.equalIn (9999 + 1) t _ _).run P w = _; rw [Op.equalIn]; simp only [Sem.run_bind, r_und w hu, Result.andThen_ok, Sem.run_pure, Option.isNone_none, Option.isNone_some])⟩
  · obtain ⟨⟨m, hu⟩, hc⟩ := eqK_inv hk
    cases hr; cases hx; cases hy
    exact fin (by simp) (by simp) (by simp) (by simp) (by simp) (by simp) (by show (Op.equalIn (9999 + 1) t _ _).run P w = _; rw [Op.equalIn]; simp only [Sem.run_bind, r_und w hu, Result.andThen_ok, Sem.run_pure, Option.isNone_none, Option.isNone_some])
  · obtain ⟨⟨m, hu⟩, hc⟩ := eqK_inv hk
    cases hr; cases hx; cases hy
    exact fin (by simp) (by simp) (by simp) (by simp) (by simp) (by simp) (by show (Op.equalIn (9999 + 1) t _ _).run P w = _; rw [Op.equalIn]; simp only [Sem.run_bind, r_und w hu, Result.andThen_ok, Sem.run_pure, Option.isNone_none, Option.isNone_some])
  -- functions
  · obtain ⟨_, _, _, hu⟩ := eqK_inv hk
    cases hr; cases hx; cases hy
    exact fin (by simp) (by simp) (by simp) (by simp) (by simp) (by simp) (by show (Op.equalIn (9999 + 1) t _ _).run P w = _; rw [Op.equalIn]; simp only [Sem.run_bind, r_und w hu, Result.andThen_ok, Sem.run_pure, Option.isNone_none, Option.isNone_some])
  · obtain ⟨_, _, _, hu⟩ := eqK_inv hk
    cases hr; cases hx; cases hy
    exact fin (by simp) (by simp) (by simp) (by simp) (by simp) (by simp) (by show (Op.equalIn (9999 + 1) t _ _).run P w = _; rw [Op.equalIn]; simp only [Sem.run_bind, r_und w hu, Result.andThen_ok, Sem.run_pure, Option.isNone_none, Option.isNone_some])
  · obtain ⟨_, _, _, hu⟩ := eqK_inv hk
    cases hr; cases hx; cases hy
    exact fin (by simp) (by simp) (by simp) (by simp) (by simp) (by simp) (by show (Op.equalIn (9999 + 1) t _ _).run P w = _; rw [Op.equalIn]; simp only [Sem.run_bind, r_und w hu, Result.andThen_ok, Sem.run_pure, Option.isNone_none, Option.isNone_some])
  -- maps
  · obtain ⟨_, _, hu⟩ := eqK_inv hk
    cases hr; cases hx; cases hy
    exact fin (by simp) (by simp) (by simp) (by simp) (by simp) (by simp) (by show (Op.equalIn (9999 + 1) t _ _).run P w = _; rw [Op.equalIn]; simp only [Sem.run_bind, r_und w hu, Result.andThen_ok, Sem.run_pure, Option.isNone_none, Option.isNone_some])
  · obtain ⟨_, _, hu⟩ := eqK_inv hk
    cases hr; cases hx; cases hy
    exact fin (by simp) (by simp) (by simp) (by simp) (by simp) (by simp) (by show (Op.equalIn (9999 + 1) t _ _).run P w = _; rw [Op.equalIn]; simp only [Sem.run_bind, r_und w hu, Result.andThen_ok, Sem.run_pure, Option.isNone_none, Option.isNone_some])
  · obtain ⟨_, _, hu⟩ := eqK_inv hk
    cases hr; cases hx; cases hy
    exact fin (by simp) (by simp) (by simp) (by simp) (by simp) (by simp) (by show (Op.equalIn (9999 + 1) t _ _).run P w = _; rw [Op.equalIn]; simp only [Sem.run_bind, r_und w hu, Result.andThen_ok, Sem.run_pure, Option.isNone_none, Option.isNone_some])
  · cases hr

end
end Rf
