/-
  Contract: the chapter's rows hold. No statement stands here.
-/
import Derived.Test.YtbcapobkbgckbaaGreatDoorStx
set_option linter.all false
namespace Go.Proofs.YtbcapobkbgckbaaGreatDoor
open Go Rf
set_option maxRecDepth 100000
set_option maxHeartbeats 4000000

theorem hG5 : cF gt1 Tryz.prog (wfa 5) 5 = some f5 := by kernel_rfl
theorem VRep.row {cx : Cx} {h : Array Obj} {n : Nat → Prop} {sz : Nat} {c : Cap} {xs ys : List V} {x : Value} (hw : All2 (fun a b => ∃ us bs, a = V.ag us ∧ b = V.ag bs ∧ All2 Vw1 us bs) xs ys) (hv : VRep cx h n (.pu sz xs c) x) : VRep cx h n (.pu sz ys .u) x := by
  have hlen : xs.length = ys.length := hw.len
  have key : ∀ i, i < xs.length → ∃ us bs, xs.getD i .bad = V.ag us ∧ ys.getD i .bad = V.ag bs ∧ All2 Vw1 us bs := fun i hi => by
    obtain ⟨q1, q2⟩ := all2_getD hw
    clear q1
    have : ∀ {l m : List V}, All2 (fun a b => ∃ us bs, a = V.ag us ∧ b = V.ag bs ∧ All2 Vw1 us bs) l m → ∀ i, i < l.length → ∃ us bs, l.getD i .bad = V.ag us ∧ m.getD i .bad = V.ag bs ∧ All2 Vw1 us bs := by
      intro l m hA
      induction hA with
      | nil => intro i hi; cases hi
      | cons h _ ih =>
        intro i hi
        cases i with
        | zero => exact h
        | succ i => exact ih i (by simpa using hi)
    exact this hw i hi
  cases hv with
  | pu0 _ _ _ =>
    have : ys = [] := List.length_eq_zero_iff.1 hlen.symm
    subst this; exact .pu0 _ _ trivial
  | pu _ _ _ a cap f ha h1 hs hz hc hv hl hr hp =>
    rw [hlen] at hl ⊢
    refine .pu sz ys .u a cap f (fun hne => ha fun e => hne ?_) (fun i j hi hj => h1 i j (by omega) hj) (fun i hi => ?_) (fun i j hi hj => hz i j (by omega) hj) (fun i j hi hj => hc i j (by omega) hj) (fun i j hi hj => ?_) hl trivial (fun k hk => by cases hk)
    · subst e; exact List.length_eq_zero_iff.1 hlen.symm
    · obtain ⟨us, bs, e1, e2, e3⟩ := key i (by omega)
      have := hs i (by omega)
      rw [e1] at this; rw [e2]
      show bs.length = sz
      rw [← e3.len]; exact this
    · obtain ⟨us, bs, e1, e2, e3⟩ := key i (by omega)
      have h2 := hv i j (by omega) hj
      have h3 := hs i (by omega)
      rw [e1] at h2 h3; rw [e2]
      have hja : j < us.length := by
        have h3 : us.length = sz := h3
        omega
      obtain ⟨q1, q2⟩ := all2_getD e3
      exact VRep.weak1 (q2 j (by rw [← q1]; exact hja)) h2
theorem Den.wk1 {gt : Nat → Option V} {P : Program} {f : FuncId} {a b : V} {s s' : St} {v : V} (h : Den gt P f [b] s v s') (hw : ∀ cx h n x, VRep cx h n a x → VRep cx h n b x) : Den gt P f [a] s v s' := fun cx w xs R G A =>
  h cx w xs R G ⟨A.len, fun j hj => by
    obtain rfl : j = 0 := by simpa using hj
    exact hw _ _ _ _ (A.rep 0 (by simp))⟩
def knL : List Ey := [⟨1, 1, 0, []⟩, ⟨2, 1, 0, [0, 255]⟩, ⟨9, 0, 5, []⟩]
theorem itoa1 (d : Nat) (h : d < 10) : Lib.itoa (d : Nat) = [UInt8.ofNat (48 + d)] := by
  unfold Lib.itoa
  rw [if_neg (by omega), Int.toNat_natCast, Lib.decDigits, dif_pos h]
theorem kn_tx : txL knL = [111, 112, 101, 110, 32, 49, 10, 98, 121, 116, 101, 115, 32, 49, 32, 48, 48, 102, 102, 10, 99, 111, 109, 109, 105, 116, 32, 53, 10] := by
  have h1 := itoa1 1 (by decide)
  have h5 := itoa1 5 (by decide)
  simp only [knL, txL, List.flatMap_cons, List.flatMap_nil, lnS, fmS, lnF, numF]
  have h1' : Lib.itoa 1 = [49] := h1
  have h5' : Lib.itoa 5 = [53] := h5
  simp [h1', h5', fm1, fm2, fm9, hxB, hxD]
theorem known_den (s : St) (hx : NoX s) : Den gt1 Tryz.prog 5 [] s (.b true) s := by
  refine Den.tidy fun ht => Den.hm gnm1 hG5 ?_
  have K := Kn.init ht.1 hx
  have hO : ∀ e ∈ knL, EyOk e := fun e he => by
    simp only [knL, List.mem_cons, List.not_mem_nil, or_false] at he
    unfold EyOk i64
    rcases he with rfl | rfl | rfl <;> simp
  have hb : ∀ e ∈ knL, e.b.length ≤ 100000 := fun e he => by
    simp only [knL, List.mem_cons, List.not_mem_nil, or_false] at he
    rcases he with rfl | rfl | rfl <;> simp
  have hT : (txL knL).length ≤ 900000 := by rw [kn_tx]; decide
  have hS : txS knL = [111, 112, 101, 110, 32, 49, 10, 98, 121, 116, 101, 115, 32, 49, 32, 48, 48, 102, 102, 10, 99, 111, 109, 109, 105, 116, 32, 53, 10] := by
    unfold txS
    rw [if_pos (by decide), kn_tx]
  have hD := text_den knL hO hb hT (by decide) s hx
  rw [hS] at hD
  have e3 : ∀ (a b c : Int) (v : V) (l : List UInt8), Vw1 v (bsV l) → ∃ us bs, V.ag [.i .i64 a, .i .i64 b, .i .i64 c, v] = V.ag us ∧ eyV ⟨a, b, c, l⟩ = V.ag bs ∧ All2 Vw1 us bs := fun a b c v l h => ⟨_, _, rfl, rfl, .cons (.refl _) (.cons (.refl _) (.cons (.refl _) (.cons h .nil)))⟩
  have hD2 : Den gt1 Tryz.prog 8 [.pu 4 [.ag [.i .i64 1, .i .i64 1, .i .i64 0, .ns], .ag [.i .i64 2, .i .i64 1, .i .i64 0, .pu 1 [.i .u8 0, .i .u8 255] (.x 2)], .ag [.i .i64 9, .i .i64 0, .i .i64 5, .ns]] (.x 3)] s (.s [111, 112, 101, 110, 32, 49, 10, 98, 121, 116, 101, 115, 32, 49, 32, 48, 48, 102, 102, 10, 99, 111, 109, 109, 105, 116, 32, 53, 10]) s :=
    Den.wk1 hD fun cx h n x hv => VRep.row (.cons (e3 1 1 0 _ _ (.ns _)) (.cons (e3 2 1 0 _ [0, 255] (.pu _ _ _)) (.cons (e3 9 0 5 _ _ (.ns _)) .nil))) hv
  conv => whnf
  refine kgo ?_; (repeat (first | intro (X:Nat) | intro (z:St) | intro (av:V) | intro (tk:Option Nat) | (intro (K1:Kn _ _ _); (try clear K); rename Kn _ _ _ => K))); conv => whnf
  refine ⟨_, _, hD2, ?_⟩
  conv => whnf
  refine kgo ?_; (repeat (first | intro (X:Nat) | intro (z:St) | intro (av:V) | intro (tk:Option Nat) | (intro (K1:Kn _ _ _); (try clear K); rename Kn _ _ _ => K))); conv => whnf
  exact K.fin ht hx (.b _) (.refl _)
end Go.Proofs.YtbcapobkbgckbaaGreatDoor
