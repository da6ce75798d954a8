/-
  Each operation's run in the model: indexes, numbers, strings, comparisons.
-/
import Derived.Test.YtklgkdehnaecnaaDoorRfF
import Derived.Laws.Strings
set_option linter.all false
set_option linter.unusedSimpArgs false
namespace Rf
open Go

section
variable {P : Program} {w : World} {cx : Cx} {s : St} {e : List V} {act : Act}

theorem sim_ia (R : Rel cx s w.heap) {t el : TypeId} {n : Nat} (hu : P.underlying t = some (.slice el)) (hn : szP P el = some n) {a b : Arg} {x y : Value} (hx : VRep cx w.heap s.L (a.ev e) x) (hy : VRep cx w.heap s.L (b.ev e) y)
    {v : V} {s' : St} (hop : aop e s (.ia n a b) = some (v, s')) : Ok ((Instr.indexAt t x y).run P w) cx s w v s' := by
  simp only [aop] at hop
  split at hop
  · rename_i z l o m c kd k hea heb
    rw [hea] at hx; rw [heb] at hy
    split at hop
    · rename_i hk
      obtain ⟨rfl, hk⟩ := hk
      cases hop; cases hx; cases hy
      rename_i cap hl hk' hc
      refine ⟨_, w, cx, ?_, .p l (o + k.toNat * z) hl, R, .refl _ _ _, .rfl⟩
      simp only [Instr.indexAt, asIntOf, Sem.run_bind, Sem.run_pure, Result.andThen_ok, r_und w hu, hk, and_self, if_true, r_size w hn, add_none, Nat.add_assoc]
    · cases hop
  · rename_i z xs c kd k hea heb
    rw [hea] at hx; rw [heb] at hy
    split at hop
    · rename_i hk
      obtain ⟨rfl, hk0⟩ := hk
      simp only [Option.map_eq_some_iff] at hop
      obtain ⟨v', h1, h2⟩ := hop
      cases h2; cases hy
      have hi := list_get_lt h1
      have hkl : k < (xs.length : Int) := by omega
      cases hx with
      | pu0 => simp at hi
      | pu _ _ _ ad cap f ha hone hs hz hc hv hl hr hp =>
        have hsp := ha (by intro h; subst h; simp at hi)
        obtain ⟨bb, bo, bs⟩ := ad
        simp only at hsp; subst hsp
        have hgd : xs.getD k.toNat .bad = v' := by simp [List.getD, h1]
        have hsz := hs k.toNat hi
        rw [hgd] at hsz
        refine ⟨_, w, cx, ?_, .q v' 0 bb (bo + k.toNat * z) (f k.toNat) (fun j hj => hone _ j hi (by omega)) (fun j hj => hz _ j hi (by omega)) (fun j hj => hc _ j hi (by omega)) (fun j hj => by have := hv _ j hi (by omega : j < z); rwa [hgd] at this), R, .refl _ _ _, .rfl⟩
        simp only [Instr.indexAt, asIntOf, Sem.run_bind, Sem.run_pure, Result.andThen_ok, r_und w hu, hk0, hkl, and_self, if_true, r_size w hn, add_none, Nat.add_zero]
    · cases hop
  · cases hop

theorem sim_iaA (R : Rel cx s w.heap) {t el : TypeId} {n len : Nat} (hu : P.underlying t = some (.array len el)) (hn : szP P el = some n) {a b : Arg} {x y : Value} (hx : VRep cx w.heap s.L (a.ev e) x) (hy : VRep cx w.heap s.L (b.ev e) y)
    {v : V} {s' : St} (hop : aop e s (.iaA n len a b) = some (v, s')) : Ok ((Instr.indexAt t x y).run P w) cx s w v s' := by
  simp only [aop] at hop
  split at hop
  · rename_i l o kd k hea heb
    rw [hea] at hx; rw [heb] at hy
    split at hop
    · rename_i hk
      cases hop; cases hx; cases hy
      rename_i hl
      refine ⟨_, w, cx, ?_, .p l (o + k.toNat * n) hl, R, .refl _ _ _, .rfl⟩
      simp only [Instr.indexAt, asIntOf, Sem.run_bind, Sem.run_pure, Result.andThen_ok, r_und w hu, Instr.sureAddr, hk, and_self, if_true, r_size w hn, add_none, Nat.add_assoc]
    · cases hop
  · rename_i q o kd k hea heb
    rw [hea] at hx; rw [heb] at hy
    split at hop
    · rename_i hk
      cases hop; cases hx; cases hy
      rename_i b d f h1 hz hc hv
      refine ⟨_, w, cx, ?_, .q q (o + k.toNat * n) b d f h1 hz hc hv, R, .refl _ _ _, .rfl⟩
      simp only [Instr.indexAt, asIntOf, Sem.run_bind, Sem.run_pure, Result.andThen_ok, r_und w hu, Instr.sureAddr, hk, and_self, if_true, r_size w hn, add_none, Nat.add_assoc]
    · cases hop
  · cases hop

theorem sim_idxA (R : Rel cx s w.heap) {t el : TypeId} {n len : Nat} {ag : Bool} (hu : P.underlying t = some (.array len el)) (hn : szP P el = some n) (ha : agP P el = some ag) {a b : Arg} {x y : Value} (hx : VRep cx w.heap s.L (a.ev e) x) (hy : VRep cx w.heap s.L (b.ev e) y)
    {v : V} {s' : St} (hop : aop e s (.idxA n ag len a b) = some (v, s')) : Ok ((Instr.index t x y).run P w) cx s w v s' := by
  simp only [aop] at hop
  split at hop
  · rename_i cs kd k hea heb
    rw [hea] at hx; rw [heb] at hy
    split at hop
    · rename_i hk
      have hr := hx.row rfl
      cases hx; cases hy
      rename_i vs h1 h2 h3
      have := r_part (P := P) hr R ha hn (k.toNat * n) (v := v) (s' := s') (by cases ag <;> exact hop)
      simpa only [Instr.index, asIntOf, Sem.run_bind, Sem.run_pure, Result.andThen_ok, r_und w hu, hk, and_self, if_true, r_size w hn, Value.cells] using this
    · cases hop
  · cases hop

theorem bytes_get (l : List UInt8) (i : Nat) : (⟨l.toArray⟩ : ByteArray)[i]? = l[i]? := by
  by_cases h : i < l.length
  · rw [List.getElem?_eq_getElem h, getElem?_pos _ i (by show i < l.toArray.size; simpa using h)]
    show some (l.toArray[i]'_) = _
    simp
  · rw [List.getElem?_eq_none (by omega), getElem?_neg _ i (by show ¬ i < l.toArray.size; simpa using h)]

theorem sim_idxS (R : Rel cx s w.heap) {t : TypeId} (hu : P.underlying t = some .string) {a b : Arg} {x y : Value} (hx : VRep cx w.heap s.L (a.ev e) x) (hy : VRep cx w.heap s.L (b.ev e) y)
    {v : V} {s' : St} (hop : aop e s (.idxS a b) = some (v, s')) : Ok ((Instr.index t x y).run P w) cx s w v s' := by
  simp only [aop] at hop
  split at hop
  · rename_i l kd k hea heb
    rw [hea] at hx; rw [heb] at hy
    split at hop
    · rename_i hk
      cases hx; cases hy
      simp only [Option.map_eq_some_iff] at hop
      obtain ⟨v', h1, h2⟩ := hop
      cases h2
      refine ⟨_, w, cx, ?_, .i .u8 v'.toNat, R, .refl _ _ _, .rfl⟩
      simp only [Instr.index, asIntOf, Sem.run_bind, Sem.run_pure, Result.andThen_ok, r_und w hu, hk, if_true, bytes_get, h1]
    · cases hop
  · cases hop

theorem sim_len (R : Rel cx s w.heap) {t el : TypeId} (hu : P.underlying t = some (.slice el)) {a : Arg} {x : Value} (hx : VRep cx w.heap s.L (a.ev e) x)
    {v : V} {s' : St} (hop : aop e s (.len a) = some (v, s')) (ty : TypeId) : Ok ((Builtin.len_ #[t] ty #[x]).run P w) cx s w v s' := by
  have key : ∀ b n c, x = .slice b n c → v = .i .i64 n → s' = s → Ok ((Builtin.len_ #[t] ty #[x]).run P w) cx s w v s' := by
    intro b n c hxe hve hse
    subst hxe; subst hve; subst hse
    refine ⟨_, w, cx, ?_, .i .i64 n, R, .refl _ _ _, .rfl⟩
    simp [Builtin.len_, Sem.run_bind, r_und w hu, goInt]
  simp only [aop] at hop
  split at hop
  · rename_i hea
    rw [hea] at hx; cases hop; cases hx
    exact key _ _ _ rfl rfl rfl
  · rename_i z l o n c hea
    rw [hea] at hx; cases hop; cases hx
    exact key _ _ _ rfl rfl rfl
  · rename_i z l hea
    rw [hea] at hx; cases hop; cases hx
    exact key _ _ _ rfl rfl rfl
  · rename_i z xs c hea
    rw [hea] at hx; cases hop
    cases hx
    · exact key _ _ _ rfl rfl rfl
    · exact key _ _ _ rfl rfl rfl
  · cases hop

theorem sim_lenS (R : Rel cx s w.heap) {t : TypeId} (hu : P.underlying t = some .string) {a : Arg} {x : Value} (hx : VRep cx w.heap s.L (a.ev e) x)
    {v : V} {s' : St} (hop : aop e s (.lenS a) = some (v, s')) (ty : TypeId) : Ok ((Builtin.len_ #[t] ty #[x]).run P w) cx s w v s' := by
  simp only [aop] at hop
  split at hop
  · rename_i l hea
    rw [hea] at hx; cases hop; cases hx
    refine ⟨_, w, cx, ?_, .i .i64 l.length, R, .refl _ _ _, .rfl⟩
    simp [Builtin.len_, Sem.run_bind, r_und w hu, goInt]
    rfl
  · cases hop

theorem sim_not (R : Rel cx s w.heap) {a : Arg} {x : Value} (hx : VRep cx w.heap s.L (a.ev e) x) {v : V} {s' : St} (hop : aop e s (.not a) = some (v, s')) : Ok ((Op.unary .not x).run P w) cx s w v s' := by
  simp only [aop] at hop
  split at hop
  · rename_i b hea
    rw [hea] at hx; cases hop; cases hx
    exact ⟨_, w, cx, by simp [Op.unary], .b (!b), R, .refl _ _ _, .rfl⟩
  · cases hop

theorem sim_neg (R : Rel cx s w.heap) {a : Arg} {x : Value} (hx : VRep cx w.heap s.L (a.ev e) x) {v : V} {s' : St} (hop : aop e s (.neg a) = some (v, s')) : Ok ((Op.unary .neg x).run P w) cx s w v s' := by
  simp only [aop] at hop
  split at hop
  · rename_i k n hea
    rw [hea] at hx; cases hop; cases hx
    exact ⟨_, w, cx, by simp [Op.unary, Op.intArith, wrapF_eq], .i k _, R, .refl _ _ _, .rfl⟩
  · cases hop

theorem sim_conv (R : Rel cx s w.heap) {t t' : TypeId} {k0 k : IntKind} (hu : P.underlying t = some (.int k0)) (hu' : P.underlying t' = some (.int k)) {a : Arg} {x : Value} (hx : VRep cx w.heap s.L (a.ev e) x) {v : V} {s' : St} (hop : aop e s (.conv k a) = some (v, s')) : Ok ((convert t t' x).run P w) cx s w v s' := by
  simp only [aop] at hop
  split at hop
  · rename_i k1 n hea
    rw [hea] at hx; cases hop; cases hx
    exact ⟨_, w, cx, by simp only [convert, Sem.run_bind, r_und w hu, r_und w hu', Result.andThen_ok, Conv.intToInt, Sem.run_pure, wrapF_eq], .i k _, R, .refl _ _ _, .rfl⟩
  · cases hop

theorem sim_convS (R : Rel cx s w.heap) {t t' : TypeId} (hu : P.underlying t = some .string) (hu' : P.underlying t' = some .string) {a : Arg} {x : Value} (hx : VRep cx w.heap s.L (a.ev e) x) {v : V} {s' : St} (hop : aop e s (.movS a) = some (v, s')) : Ok ((convert t t' x).run P w) cx s w v s' := by
  simp only [aop] at hop
  split at hop
  · rename_i l hea
    rw [hea] at hx; cases hop; cases hx
    exact ⟨_, w, cx, by simp only [convert, Sem.run_bind, r_und w hu, r_und w hu', Result.andThen_ok, Sem.run_pure], .s l, R, .refl _ _ _, .rfl⟩
  · cases hop

theorem sim_mki (R : Rel cx s w.heap) {t : TypeId} {d : TypeDesc} (hu : P.underlying t = some d) (hd : ∀ m, d ≠ .interface m) {a : Arg} {x : Value} (hx : VRep cx w.heap s.L (a.ev e) x) : Ok ((Instr.makeInterface t x).run P w) cx s w (.ifc t (a.ev e)) s := by
  refine ⟨_, w, cx, ?_, .ifc t _ x hx, R, .refl _ _ _, .rfl⟩
  cases d <;> simp_all [Instr.makeInterface, Sem.run_bind, r_und w hu]

theorem sim_mmx (R : Rel cx s w.heap) {mx : Bool} {a b : Arg} {x y : Value} (hx : VRep cx w.heap s.L (a.ev e) x) (hy : VRep cx w.heap s.L (b.ev e) y)
    {v : V} {s' : St} (hop : aop e s (.mmx mx a b) = some (v, s')) (ts : Array TypeId) (ty : TypeId) : Ok (((if mx then Builtin.max_ ts ty #[x, y] else Builtin.min_ ts ty #[x, y])).run P w) cx s w v s' := by
  simp only [aop] at hop
  split at hop
  · rename_i k n k' m hea heb
    rw [hea] at hx; rw [heb] at hy
    split at hop
    · rename_i hk; subst hk
      cases hop; cases hx; cases hy
      refine ⟨_, w, cx, ?_, .i k _, R, .refl _ _ _, .rfl⟩
      cases mx
      · simp [Builtin.min_, Builtin.min2]
      · simp [Builtin.max_, Builtin.max2]
    · cases hop
  · cases hop

theorem sim_nilc (R : Rel cx s w.heap) {a : Arg} {x : Value} (hx : VRep cx w.heap s.L (a.ev e) x) {v : V} {s' : St} (hop : aop e s (.nilc a) = some (v, s')) :
    s' = s ∧ VRep cx w.heap s.L v x ∧ (x ≠ .pointer none ∧ x ≠ .nilIface ∧ x ≠ .nilFunc ∧ ∀ nm a b, x ≠ .func (.method nm) a b) := by
  simp only [aop] at hop
  split at hop <;> (rename_i hea; first | (rw [hea] at hx; cases hop; refine ⟨rfl, hx, ?_⟩; cases hx; refine ⟨?_, ?_, ?_, ?_⟩ <;> intros <;> simp) | cases hop)

/-! numbers and strings -/
theorem bytesLess_list (a b : List UInt8) : (⟨a.toArray⟩ : ByteArray).toList = a ∧ (⟨b.toArray⟩ : ByteArray).toList = b := by
  constructor <;> (rw [ByteArray.toList_eq])

theorem ba_append (a b : List UInt8) : (⟨a.toArray⟩ : ByteArray) ++ ⟨b.toArray⟩ = ⟨(a ++ b).toArray⟩ := by
  apply ByteArray.ext
  simp

theorem sim_bin (R : Rel cx s w.heap) {t : TypeId} {op : BinOp} (hop' : isBin op = true) {a b : Arg} {x y : Value} (hx : VRep cx w.heap s.L (a.ev e) x) (hy : VRep cx w.heap s.L (b.ev e) y)
    {v : V} {s' : St} (hop : aop e s (.bin op a b) = some (v, s')) : Ok ((binOp op t x y).run P w) cx s w v s' := by
  simp only [aop, Option.map_eq_some_iff] at hop
  obtain ⟨v', h1, h2⟩ := hop
  cases h2
  generalize a.ev e = av at *
  generalize b.ev e = bv at *
  unfold binV at h1
  split at h1
  · -- shl
    split at h1
    · cases h1
    · rename_i hb
      cases h1; cases hx; cases hy
      refine ⟨_, w, cx, ?_, .i _ _, R, .refl _ _ _, .rfl⟩
      simp [binOp, Op.shift, hb, wrapF_eq]
  · split at h1
    · cases h1
    · rename_i hb
      cases h1; cases hx; cases hy
      refine ⟨_, w, cx, ?_, .i _ _, R, .refl _ _ _, .rfl⟩
      simp [binOp, Op.shift, hb, wrapF_eq]
  · rename_i k n k' m n1 n2
    split at h1
    · rename_i hk; subst hk
      cases hx; cases hy
      cases op <;> simp only [binI, wrapK_eq, ltZ_eq, leZ_eq] at h1 <;> first
        | (cases h1; done)
        | (cases h1; refine ⟨_, w, cx, ?_, by first | exact .i _ _ | exact .b _, R, .refl _ _ _, .rfl⟩; simp only [binOp, ne_eq, not_true_eq_false, if_false, Op.intArith, Op.intCmp, Op.intBits, Sem.run_pure])
        | (split at h1
           · cases h1
           · rename_i hz; cases h1; refine ⟨_, w, cx, ?_, .i _ _, R, .refl _ _ _, .rfl⟩; simp only [binOp, ne_eq, not_true_eq_false, if_false, Op.intDiv, hz, Sem.run_pure])
    · cases h1
  · rename_i x1 y1
    split at h1
    · rename_i hlt
      cases h1; cases hx; cases hy
      refine ⟨_, w, cx, ?_, .s (x1 ++ y1), R, .refl _ _ _, .rfl⟩
      have hsz : ∀ l : List UInt8, (⟨l.toArray⟩ : ByteArray).size = l.length := fun l => by simp [ByteArray.size]
      simp only [binOp, Op.stringOp, Sem.run_ite, hsz]
      rw [if_neg (by simp [IntKind.max, IntKind.bits, IntKind.signed]; omega), Sem.run_pure, ba_append]
    · cases h1
  · rename_i x1 y1
    cases h1; cases hx; cases hy
    refine ⟨_, w, cx, ?_, .b _, R, .refl _ _ _, .rfl⟩
    simp only [binOp, Op.stringOp, (bytesLess_list x1 y1).1, (bytesLess_list x1 y1).2, Sem.run_pure]
  · rename_i x1 y1
    cases h1; cases hx; cases hy
    refine ⟨_, w, cx, ?_, .b _, R, .refl _ _ _, .rfl⟩
    simp only [binOp, Op.stringOp, (bytesLess_list x1 y1).1, (bytesLess_list x1 y1).2, Sem.run_pure]
  · rename_i x1 y1
    cases h1; cases hx; cases hy
    refine ⟨_, w, cx, ?_, .b _, R, .refl _ _ _, .rfl⟩
    simp only [binOp, Op.stringOp, (bytesLess_list x1 y1).1, (bytesLess_list x1 y1).2, Sem.run_pure]
  · rename_i x1 y1
    cases h1; cases hx; cases hy
    refine ⟨_, w, cx, ?_, .b _, R, .refl _ _ _, .rfl⟩
    simp only [binOp, Op.stringOp, (bytesLess_list x1 y1).1, (bytesLess_list x1 y1).2, Sem.run_pure]
  · cases h1

end
end Rf
