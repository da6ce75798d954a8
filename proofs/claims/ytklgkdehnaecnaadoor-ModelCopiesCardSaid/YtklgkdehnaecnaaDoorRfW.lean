/-
  More operations: complements, pointers turned about, a Builder's string, functions of the model's own.
-/
import Derived.Test.YtklgkdehnaecnaaDoorRfK
import Derived.Lib.UnsafeStr
import Derived.Lib.Builder
import Derived.Laws.Externs
import Derived.Lib.Bytealg
import Derived.KernelRfl
set_option linter.all false
set_option linter.unusedSimpArgs false
namespace Rf
open Go

section
variable {P : Program} {w : World} {cx : Cx} {s : St} {e : List V} {act : Act}

theorem sim_xr (R : Rel cx s w.heap) {a : Arg} {x : Value} (hx : VRep cx w.heap s.L (a.ev e) x) {v : V} {s' : St} (hop : aop e s (.xr a) = some (v, s')) : Ok ((Op.unary .xor x).run P w) cx s w v s' := by
  simp only [aop] at hop
  split at hop
  · rename_i k n hea
    rw [hea] at hx
    simp only [binI, wrapK_eq, Option.map_some, Option.some.injEq, Prod.mk.injEq] at hop
    obtain ⟨rfl, rfl⟩ := hop
    cases hx
    refine ⟨_, w, cx, ?_, .i k _, R, .refl _ _ _, .rfl⟩
    simp only [Op.unary, Op.intBits, Sem.run_pure]
  · cases hop

/-- an object's block -/
theorem obj_shape (R : Rel cx s w.heap) {l : Nat} {cs : List V} {z : Nat} {ty : Option Nat} (hg : s.get l = some (.c cs z ty)) :
    ∃ el n, w.shape? (cx.r l).b = some (el, n) ∧ (cx.r l).d + cs.length ≤ n ∧ ∀ T, ty = some T → el = T ∧ (cx.r l).d = 0 := by
  obtain ⟨arr, el, lo, hi, h1, ⟨h2, _, _, h3⟩, _⟩ := R.obj l _ hg
  exact ⟨el, arr.size, by simp [World.shape?, h1], h2, fun T hT => ⟨(h3 T hT).1, (h3 T hT).2.1⟩⟩

theorem szP_info {t : TypeId} {n : Nat} (h : szP P t = some n) : ∃ j, P.info? t = some j ∧ j.size = n := by
  unfold szP at h
  simp only [Option.map_eq_some_iff] at h
  exact h

theorem cellsOf_szP {t : TypeId} {n : Nat} (h : szP P t = some n) : P.cellsOf t = n := by
  obtain ⟨j, h1, h2⟩ := szP_info h
  simp [Program.cellsOf, h1, h2]

theorem sim_u1 (R : Rel cx s w.heap) {t t' el : TypeId} {n : Nat} (hu : P.underlying t = some (.pointer el)) (hu' : P.underlying t' = some .unsafePointer) (hn : szP P el = some n) (h0 : n ≠ 0) {a : Arg} {x : Value} (hx : VRep cx w.heap s.L (a.ev e) x)
    {v : V} {s' : St} (hop : aop e s (.u1 a) = some (v, s')) : Ok ((convert t t' x).run P w) cx s w v s' := by
  simp only [aop] at hop
  split at hop
  · rename_i hea
    rw [hea] at hx; cases hop; cases hx
    refine ⟨_, w, cx, ?_, .np, R, .refl _ _ _, .rfl⟩
    simp [convert, r_und w hu, r_und w hu', Conv.unsafePointer]
  · rename_i l o hea
    rw [hea] at hx
    split at hop
    · rename_i cs z ty hg
      split at hop
      · rename_i ho
        cases hop
        have hx' := hx
        cases hx
        obtain ⟨e1, m, h1, h2, -⟩ := obj_shape R hg
        obtain ⟨j, h3, h4⟩ := szP_info hn
        exact ⟨_, w, cx, Lib.run_to_unsafe w _ hu hu' h3 (by omega) h1 (by show (cx.r l).d + o < m; omega), hx', R, .refl _ _ _, .rfl⟩
      · cases hop
    · cases hop
  · cases hop

theorem liesAt_self {t : TypeId} {n count : Nat} (hn : P.cellsOf t = n) (h0 : n ≠ 0) (hc : 1 ≤ count) : liesAt P P.depth t count 0 t 1 = true := by
  have hd : P.depth = (2 * (P.types.size + Made.depth) + 1) + 1 := rfl
  rw [hd]
  simp only [liesAt, Bool.or_eq_true]
  left
  rw [hd]
  simp [rowAt, hn, h0, hc, sameLayout]

theorem sim_u2 (R : Rel cx s w.heap) {t t' el : TypeId} {n : Nat} (hu : P.underlying t = some .unsafePointer) (hu' : P.underlying t' = some (.pointer el)) (hn : szP P el = some n) (h0 : n ≠ 0) {a : Arg} {x : Value} (hx : VRep cx w.heap s.L (a.ev e) x)
    {v : V} {s' : St} (hop : aop e s (.u2 el n a) = some (v, s')) : Ok ((convert t t' x).run P w) cx s w v s' := by
  simp only [aop] at hop
  split at hop
  · rename_i hea
    rw [hea] at hx; cases hop; cases hx
    refine ⟨_, w, cx, ?_, .np, R, .refl _ _ _, .rfl⟩
    simp [convert, r_und w hu, r_und w hu', Conv.unsafePointer]
  · rename_i l o hea
    rw [hea] at hx
    split at hop
    · rename_i cs z T hg
      split at hop
      · rename_i hc
        obtain ⟨rfl, rfl, hle⟩ := hc
        cases hop
        have hx' := hx
        cases hx
        obtain ⟨e1, m, h1, h2, h5⟩ := obj_shape R hg
        obtain ⟨rfl, hd⟩ := h5 _ rfl
        obtain ⟨j, h3, h4⟩ := szP_info hn
        have hco := cellsOf_szP hn
        refine ⟨_, w, cx, Lib.run_from_unsafe w _ hu hu' h3 h1 ?_, hx', R, .refl _ _ _, .rfl⟩
        have hoff : (cx.r l).d + 0 = 0 := by omega
        show liesAt P P.depth e1 (m / P.cellsOf e1) ((cx.r l).d + 0) e1 1 = true
        rw [hoff]
        refine liesAt_self hco h0 ?_
        rw [hco]
        exact (Nat.le_div_iff_mul_le (by omega)).2 (by omega)
      · cases hop
    · cases hop
  · cases hop

theorem sim_usd (R : Rel cx s w.heap) {a : Arg} {x : Value} (hx : VRep cx w.heap s.L (a.ev e) x) (ts : Array TypeId) (ty : TypeId)
    {v : V} {s' : St} (hop : aop e s (.usd a) = some (v, s')) : Ok ((Builtin.unsafeSliceData_ ts ty #[x]).run P w) cx s w v s' := by
  simp only [aop] at hop
  split at hop
  · rename_i hea
    rw [hea] at hx; cases hop; cases hx
    exact ⟨_, w, cx, Lib.run_unsafeSliceData_nil w ts ty 0 0, .np, R, .refl _ _ _, .rfl⟩
  · rename_i sz l o n c hea
    rw [hea] at hx
    split at hop
    · rename_i hc
      cases hop
      cases hx
      rename_i cap hl hk hcc
      refine ⟨_, w, cx, Lib.run_unsafeSliceData_row w ts ty _ n cap ?_, .p l o hl, R, .refl _ _ _, .rfl⟩
      cases c with
      | none => simp at hc; omega
      | some c => obtain ⟨rfl, -⟩ := hcc; simp at hc; omega
    · cases hop
  · cases hop

theorem run_loadBytesI (w : World) : ∀ (ns : List Int) (a : Addr) (acc : ByteArray), (∀ j n, ns[j]? = some n → w.cell? (a.add j) = some (.int .u8 n)) →
    (loadBytes a acc ns.length).run P w = .ok ⟨acc.data ++ (ns.map fun n => UInt8.ofNat n.toNat).toArray⟩ w
  | [], a, acc, _ => by simp [loadBytes]
  | x :: l, a, acc, h => by
    have h0 : w.cell? a = some (.int .u8 x) := by
      have := h 0 x rfl
      simpa [Addr.add] using this
    have ih := run_loadBytesI w l (a.add 1) (acc.push (UInt8.ofNat x.toNat)) (fun j y hy => by
      have := h (j + 1) y (by simpa using hy)
      have e : (a.add 1).add j = a.add (j + 1) := by
        unfold Addr.add
        by_cases hj : j = 0
        · subst hj; simp
        · simp [hj]; omega
      rw [e]; exact this)
    have hx : x.toNat.toUInt8 = UInt8.ofNat x.toNat := rfl
    simp only [List.length_cons, loadBytes, Sem.run_bind, run_load, h0, Result.andThen, hx]
    rw [ih]
    congr 1
    apply ByteArray.ext
    simp [ByteArray.push]

theorem freeze_heap {w : World} {b : Nat} {arr : Array Value} {el : TypeId} {lo hi : Nat} (hb : w.heap[b]? = some (.cells arr el (lo, hi))) {n : Nat} (h0 : n ≠ 0) (z : Nat) (hz : lo = hi ∨ hi ≤ z) :
    ∃ lo' hi', (w.freeze ⟨b, 0, none⟩ n) = { w with heap := w.heap.setIfInBounds b (.cells arr el (lo', hi')) } ∧ hi' ≤ max z n := by
  have hlt : b < w.heap.size := by
    rcases Nat.lt_or_ge b w.heap.size with h | h
    · exact h
    · rw [Array.getElem?_eq_none h] at hb; cases hb
  refine ⟨(if lo == hi then (0, 0 + n) else (min lo 0, max hi (0 + n))).1, (if lo == hi then (0, 0 + n) else (min lo 0, max hi (0 + n))).2, ?_, ?_⟩
  · unfold World.freeze
    rw [if_neg h0]
    congr 1
    apply Array.ext_getElem?
    intro i
    rw [Array.getElem?_modify]
    by_cases hi' : b = i
    · subst hi'
      rw [if_pos rfl, hb, Array.getElem?_setIfInBounds_self_of_lt hlt]
      rfl
    · rw [if_neg hi', Array.getElem?_setIfInBounds_ne hi']
  · split
    · simp; omega
    · rename_i hne
      have hne' : lo ≠ hi := by simpa using hne
      simp only [Nat.zero_add]; omega

theorem sim_ustr (R : Rel cx s w.heap) {pt it ty el : TypeId} (hp : P.underlying pt = some (.pointer el)) (hn : szP P el = some 1) {a b : Arg} {x y : Value} (hx : VRep cx w.heap s.L (a.ev e) x) (hy : VRep cx w.heap s.L (b.ev e) y)
    {v : V} {s' : St} (hop : aop e s (.ustr el a b) = some (v, s')) : Ok ((Builtin.unsafeString_ #[pt, it] ty #[x, y]).run P w) cx s w v s' := by
  simp only [aop] at hop
  split at hop
  · rename_i k hea heb
    rw [hea] at hx; rw [heb] at hy
    split at hop
    · rename_i hk
      subst hk
      cases hop; cases hx; cases hy
      exact ⟨_, w, cx, Lib.run_unsafeString_none w pt it ty none, .s [], R, .refl _ _ _, .rfl⟩
    · cases hop
  · rename_i l o k hea heb
    rw [hea] at hx; rw [heb] at hy
    split at hop
    · rename_i hk
      subst hk
      cases hop; cases hx; cases hy
      exact ⟨_, w, cx, Lib.run_unsafeString_none w pt it ty _, .s [], R, .refl _ _ _, .rfl⟩
    · rename_i hk0
      split at hop
      · rename_i cs z T hg
        split at hop
        · rename_i hc
          obtain ⟨rfl, rfl, hk, hle, hmx⟩ := hc
          simp only [Option.map_eq_some_iff] at hop
          obtain ⟨bs, hb, hop⟩ := hop
          cases hop; cases hx; cases hy
          rename_i hl
          obtain ⟨arr, e1, lo, hi, h1, ⟨h2, h2k, h2z, h2t⟩, h3, h4, h5⟩ := R.obj l _ hg
          obtain ⟨rfl, hd, hfr⟩ := h2t _ rfl
          obtain ⟨m, rfl⟩ : ∃ m : Nat, k = m := ⟨k.toNat, by omega⟩
          have hm0 : m ≠ 0 := by omega
          simp only [Int.toNat_natCast] at hle hb
          have hlen : (cs.take m).length = m := by simp; omega
          obtain ⟨ns, g1, g2⟩ := toBytes_rep (cx := cx) (h := w.heap) (m := s.L) (cs.take m) bs hb ((List.range m).map fun j => arr.getD j undef) (by simp; omega) (fun j hj => by
            rw [hlen] at hj
            have := h4 j (by omega)
            rw [hd, Nat.zero_add] at this
            simpa [List.getD, hj, List.getElem?_take] using this)
          have hnl : ns.length = m := by have := congrArg List.length g1; simpa using this.symm
          have hcell : ∀ j n, ns[j]? = some n → w.cell? ((⟨(cx.r l).b, (cx.r l).d + 0, none⟩ : Addr).add j) = some (.int .u8 n) := fun j n hj => by
            have hjm : j < m := by rw [← hnl]; exact (List.getElem?_eq_some_iff.1 hj).1
            have h6 : (ns.map (Value.int .u8))[j]? = some (.int .u8 n) := by simp [hj]
            rw [← g1] at h6
            simp [hjm] at h6
            have h7 : ((⟨(cx.r l).b, (cx.r l).d + 0, none⟩ : Addr).add j) = ⟨(cx.r l).b, j, none⟩ := by
              unfold Addr.add
              by_cases hj0 : j = 0 <;> simp [hj0, hd]
            rw [h7, cell?_eq, cellAt_of h1]
            have : j < arr.size := by omega
            rw [← h6]; simp [this]
          have hlb := run_loadBytesI (P := P) w ns _ .empty hcell
          have hco := cellsOf_szP hn
          have hlies := Lib.liesAt_bytes (P := P) hco (arr.size / P.cellsOf e1) m (by rw [hco]; simp; omega)
          have hoff : (cx.r l).d + 0 = 0 := by omega
          have hdef : Builtin.unsafeString_ #[pt, it] ty #[.pointer (some ⟨(cx.r l).b, (cx.r l).d + 0, none⟩), .int .i64 m] =
              (do
                let n ← asInt (.int .i64 m)
                if n < 0 then runtimePanic (.error "unsafe.String: len out of range")
                if n > IntKind.i64.max then unsupported (.unsafePointer "String: a length above the largest int")
                if n = 0 then pure (.string .empty)
                else if ← variablesAt ⟨(cx.r l).b, (cx.r l).d + 0, none⟩ (← elemOf pt) n.toNat then do
                  let s ← loadBytes ⟨(cx.r l).b, (cx.r l).d + 0, none⟩ .empty n.toNat
                  freeze ⟨(cx.r l).b, (cx.r l).d + 0, none⟩ n.toNat
                  pure (.string s)
                else unsupported (.unsafePointer "String: not so many bytes at ptr")) := rfl
          have hmax : IntKind.i64.max = 9223372036854775807 := rfl
          have hneg : ¬ (m : Int) < 0 := by omega
          have h63 : ¬ (9223372036854775807 : Int) < (m : Int) := by omega
          have hsh : w.shape? (cx.r l).b = some (e1, arr.size) := by simp [World.shape?, h1]
          rw [hnl] at hlb
          obtain ⟨lo', hi', f1, f2⟩ := freeze_heap h1 hm0 z hfr
          have hrun : (Builtin.unsafeString_ #[pt, it] ty #[.pointer (some ⟨(cx.r l).b, (cx.r l).d + 0, none⟩), .int .i64 m]).run P w = .ok (.string ⟨(ns.map fun n => UInt8.ofNat n.toNat).toArray⟩) (w.freeze ⟨(cx.r l).b, (cx.r l).d + 0, none⟩ m) := by
            rw [hdef]
            rw [hoff] at hlb ⊢
            have : (ByteArray.empty.data ++ (ns.map fun n => UInt8.ofNat n.toNat).toArray) = (ns.map fun n => UInt8.ofNat n.toNat).toArray := by
              apply Array.ext'
              rw [Array.toList_append]
              rfl
            rw [this] at hlb
            simp [asInt, asIntOf, hmax, h63, hneg, hm0, variablesAt, hsh, elemOf, run_underlying hp, hlies, hlb]
          rw [hoff] at hrun
          have hU := R.upd hg cs (max z m) arr e1 lo' hi' ⟨_, _, h1⟩ (fun _ _ => .inr f2) h2 rfl h2z h3 h4 (fun j hj hj' => by omega) _ rfl
          simp only [Int.toNat_natCast]
          refine ⟨_, _, cx, by rw [hoff]; exact hrun, ?_, ?_, ?_, ?_⟩
          · rw [g2]; exact .s _
          · rw [f1]; exact hU.1
          · rw [f1]; exact hU.2
          · rw [f1]; exact ⟨rfl, rfl⟩
        · cases hop
      · cases hop
  · cases hop

theorem cntB_eq (c : UInt8) : ∀ l : List UInt8, Lib.countByte l c = cntB c l
  | [] => rfl
  | b :: r => by
    have ih := cntB_eq c r
    unfold Lib.countByte at ih ⊢
    rw [List.count_cons, cntB, ih]
    by_cases h : b = c <;> simp [h]

theorem ixB_eq (c : UInt8) : ∀ l : List UInt8, Lib.indexByte l c = match ixB c l with | some i => (i : Int) | none => -1
  | [] => rfl
  | b :: r => by
    have ih := ixB_eq c r
    unfold Lib.indexByte ixB
    by_cases h : b = c
    · simp [h]
    · have h' : (b == c) = false := by simpa using h
      rw [h', if_neg h, ih]
      cases hx : ixB c r with
      | none => simp
      | some i =>
        have : ¬ ((i : Int) = -1) := by omega
        simp [this]

theorem sim_cnt (R : Rel cx s w.heap) {a b : Arg} {x y : Value} (hx : VRep cx w.heap s.L (a.ev e) x) (hy : VRep cx w.heap s.L (b.ev e) y) {v : V} {s' : St} (hop : aop e s (.cnt a b) = some (v, s')) :
    Ok ((Extern.BytealgCount.count #[x, y]).run P w) cx s w v s' := by
  simp only [aop] at hop
  split at hop
  · rename_i l n hea heb
    rw [hea] at hx; rw [heb] at hy
    cases hop; cases hx; cases hy
    refine ⟨_, w, cx, Lib.run_countString _ _ _, ?_, R, .refl _ _ _, .rfl⟩
    rw [cntB_eq]; exact .i _ _
  · cases hop

theorem sim_ixb (R : Rel cx s w.heap) {a b : Arg} {x y : Value} (hx : VRep cx w.heap s.L (a.ev e) x) (hy : VRep cx w.heap s.L (b.ev e) y) {v : V} {s' : St} (hop : aop e s (.ixb a b) = some (v, s')) :
    Ok ((Extern.BytealgIndexByte.indexByte #[x, y]).run P w) cx s w v s' := by
  simp only [aop] at hop
  split at hop
  · rename_i l n hea heb
    rw [hea] at hx; rw [heb] at hy
    cases hop; cases hx; cases hy
    refine ⟨_, w, cx, Lib.run_indexByteString _ _ _, ?_, R, .refl _ _ _, .rfl⟩
    rw [ixB_eq]; exact .i _ _
  · cases hop

end

/-! functions of the model's own -/
theorem ext_run {P : Program} {f : FuncId} {fn : Func} {x : Array Value → Sem Value} {n : String} (hf : P.funcs[f]? = some fn) (hb : fn.body.isNone = true) (hn : fn.name = n) (ho : fn.origin = "" ∨ fn.origin = n)
    (hne : (n == "runtime.NumGoroutine") = false) (h1 : Extern.allNextRows.lookup n = none) (h0 : Extern.allNextRows.lookup "" = none) (h2 : Extern.allGenericRows.lookup n = none) (h3 : Extern.allTypedRows.lookup n = none) (h4 : Extern.allRows.lookup n = some x) (args : Array Value) (w : World) :
    (callFunc f args).run P w = ((x args).run P w).andThen fun v w' => .ok (.value v) w' := by
  refine run_callFunc_extern hf (by rw [hn]; exact hne) hb ?_ ?_ args w
  · unfold Extern.findNext
    rcases ho with ho | ho <;> simp [hn, ho, h1, h0]
  · unfold Extern.find
    simp [hn, h2, h3, h4]

theorem rows0 : Extern.allNextRows.lookup "" = none := by kernel_rfl
theorem rowsNE : Extern.allNextRows.lookup "internal/abi.NoEscape" = none ∧ Extern.allGenericRows.lookup "internal/abi.NoEscape" = none ∧ Extern.allTypedRows.lookup "internal/abi.NoEscape" = none ∧ Extern.allRows.lookup "internal/abi.NoEscape" = some Extern.AbiNoEscape.same :=
  ⟨by kernel_rfl, by kernel_rfl, by kernel_rfl, by kernel_rfl⟩
theorem rowsCS : Extern.allNextRows.lookup "internal/bytealg.CountString" = none ∧ Extern.allGenericRows.lookup "internal/bytealg.CountString" = none ∧ Extern.allTypedRows.lookup "internal/bytealg.CountString" = none ∧ Extern.allRows.lookup "internal/bytealg.CountString" = some Extern.BytealgCount.count :=
  ⟨by kernel_rfl, by kernel_rfl, by kernel_rfl, by kernel_rfl⟩
theorem rowsIB : Extern.allNextRows.lookup "internal/bytealg.IndexByteString" = none ∧ Extern.allGenericRows.lookup "internal/bytealg.IndexByteString" = none ∧ Extern.allTypedRows.lookup "internal/bytealg.IndexByteString" = none ∧ Extern.allRows.lookup "internal/bytealg.IndexByteString" = some Extern.BytealgIndexByte.indexByte :=
  ⟨by kernel_rfl, by kernel_rfl, by kernel_rfl, by kernel_rfl⟩

theorem rowsMC : Extern.allNextRows.lookup "maps.clone" = none ∧ Extern.allGenericRows.lookup "maps.clone" = none ∧ Extern.allTypedRows.lookup "maps.clone" = none ∧ Extern.allRows.lookup "maps.clone" = some Extern.MapsClone.clone :=
  ⟨by kernel_rfl, by kernel_rfl, by kernel_rfl, by kernel_rfl⟩

section
variable {gt : Nat → Option V} {P : Program} {w : World} {cx : Cx} {s : St} {e : List V} {act : Act}

theorem sim_mcl (R : Rel cx s w.heap) {u : V} {x : Value} (hx : VRep cx w.heap s.L u x) {v : V} {s' : St} (hop : mop s .mcl [u] = some (v, s')) : ∃ y w' cx', (Extern.MapsClone.clone #[x]).run P w = .ok y w' ∧ VRep cx' w'.heap s'.L v y ∧ Rel cx' s' w'.heap ∧ Ext cx s w.heap cx' s' w'.heap ∧ Qt w w' := by
  simp only [mop] at hop
  split at hop
  case h_2 => cases hop
  rename_i t l
  split at hop
  case h_2 => cases hop
  rename_i es clk hg
  cases hop
  cases hx
  rename_i y hy
  cases hy
  rename_i hl
  obtain ⟨-, ml, h1, h2⟩ := R.obj l _ hg
  obtain ⟨cx', c1, c2, c3⟩ := R.newX (.mp es clk) (.map ml.toArray clk) (fun cx' hc L => ⟨ml, by simp, h2.mono fun a b h => ⟨h.1, h.2.1.later L, h.2.2.later L⟩⟩)
  refine ⟨.iface t (.map (some w.heap.size)), { w with heap := w.heap.push (.map ml.toArray clk) }, cx', ?_, ?_, c2, c3, ⟨rfl, rfl⟩⟩
  · have e0 : Extern.MapsClone.clone #[.iface t (.map (some (cx.r l).b))] = (do
        let .map entries clock ← getObj (cx.r l).b | stuck "maps.clone: a map expected"
        pure (.iface t (.map (some (← newObj (.map entries clock)))))) := rfl
    rw [e0]
    simp [getObj, newObj, Sem.run, Result.andThen, Sem.run_bind, h1]
  · have := VRep.m (cx := cx') (h := w.heap.push (.map ml.toArray clk)) (n := (s.new (.x (.mp es clk))).L) s.n (St.new_L0 _ R.gl)
    rw [c1] at this
    exact .ifc _ _ _ this

theorem sim_X (E : ERep gt cx w.heap s.L e act.tmps) (R : Rel cx s w.heap) {f : FuncId} {args : Array Operand} {a : A} (hc : cX gt P f args.toList = some a) {v : V} {s' : St} (hop : aop e s a = some (v, s')) :
    ∃ x w' cx', (callFunc f (args.map act.eval)).run P w = .ok (.value x) w' ∧ VRep cx' w'.heap s'.L v x ∧ Rel cx' s' w'.heap ∧ Ext cx s w.heap cx' s' w'.heap ∧ Qt w w' := by
  obtain ⟨args⟩ := args
  simp only at hc
  unfold cX at hc
  split at hc
  · rename_i fn hf
    split at hc
    · rename_i hcond
      simp only [Bool.and_eq_true, Bool.or_eq_true, beq_iff_eq] at hcond
      obtain ⟨hb, ho⟩ := hcond
      split at hc
      · rename_i hn
        have hn : fn.name = "internal/abi.NoEscape" := by simpa using hn
        split at hc
        · rename_i x
          simp only [Option.map_eq_some_iff] at hc
          obtain ⟨x', hx, rfl⟩ := hc
          simp only [aop] at hop; cases hop
          refine ⟨act.eval x, w, cx, ?_, arg_rep E hx, R, .refl _ _ _, .rfl⟩
          rw [ext_run hf hb hn (by rw [← hn]; exact ho) (by kernel_rfl) rowsNE.1 rows0 rowsNE.2.1 rowsNE.2.2.1 rowsNE.2.2.2]
          have : (#[x] : Array Operand).map act.eval = #[act.eval x] := by simp
          rw [this]; rfl
        · cases hc
      · split at hc
        · rename_i hn
          have hn : fn.name = "internal/bytealg.CountString" := by simpa using hn
          split at hc
          · rename_i x c
            split at hc
            · rename_i x' c' hx hcc
              cases hc
              obtain ⟨r, w', cx', e1, e2, e3, e4⟩ := sim_cnt (P := P) R (arg_rep E hx) (arg_rep E hcc) hop
              refine ⟨r, w', cx', ?_, e2, e3, e4⟩
              rw [ext_run hf hb hn (by rw [← hn]; exact ho) (by kernel_rfl) rowsCS.1 rows0 rowsCS.2.1 rowsCS.2.2.1 rowsCS.2.2.2]
              have : (#[x, c] : Array Operand).map act.eval = #[act.eval x, act.eval c] := by simp
              rw [this, e1]; rfl
            · cases hc
          · cases hc
        · split at hc
          · rename_i hn
            have hn : fn.name = "internal/bytealg.IndexByteString" := by simpa using hn
            split at hc
            · rename_i x c
              split at hc
              · rename_i x' c' hx hcc
                cases hc
                obtain ⟨r, w', cx', e1, e2, e3, e4⟩ := sim_ixb (P := P) R (arg_rep E hx) (arg_rep E hcc) hop
                refine ⟨r, w', cx', ?_, e2, e3, e4⟩
                rw [ext_run hf hb hn (by rw [← hn]; exact ho) (by kernel_rfl) rowsIB.1 rows0 rowsIB.2.1 rowsIB.2.2.1 rowsIB.2.2.2]
                have : (#[x, c] : Array Operand).map act.eval = #[act.eval x, act.eval c] := by simp
                rw [this, e1]; rfl
              · cases hc
            · cases hc
          · split at hc
            · rename_i hn
              have hn : fn.name = "maps.clone" := by simpa using hn
              split at hc
              · rename_i x
                simp only [Option.map_eq_some_iff] at hc
                obtain ⟨x', hx, rfl⟩ := hc
                have hop' : mop s .mcl [x'.ev e] = some (v, s') := hop
                obtain ⟨r, w', cx', e1, e2, e3, e4⟩ := sim_mcl (P := P) R (arg_rep E hx) hop'
                refine ⟨r, w', cx', ?_, e2, e3, e4⟩
                rw [ext_run hf hb hn (by rw [← hn]; exact ho) (by kernel_rfl) rowsMC.1 rows0 rowsMC.2.1 rowsMC.2.2.1 rowsMC.2.2.2]
                have : (#[x] : Array Operand).map act.eval = #[act.eval x] := by simp
                rw [this, e1]; rfl
              · cases hc
            · cases hc
    · cases hc
  · cases hc

end
end Rf
