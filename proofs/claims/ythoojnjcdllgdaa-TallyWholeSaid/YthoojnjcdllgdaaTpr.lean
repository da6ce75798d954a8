/-
  Contracts: keys of events, maps' keys sorted (numbers). No statement stands here.
-/
import Derived.Test.YthoojnjcdllgdaaTgb
import Derived.Test.YthoojnjcdllgdaaTsq
import Derived.Test.YthoojnjcdllgdaaCodeS
set_option linter.all false
namespace Go.Proofs.Ythoojnjcdllgdaa
open Go Rf TallyP Go.RowKit Go.Maps Go.Sort Go.Shelf Go.Proofs
set_option maxRecDepth 100000
set_option maxHeartbeats 4000000

theorem nox0 : NoX s0 := fun l o h => by simp [s0_get] at h
theorem c31_den (m : Mv) (hn : Nm s0.L m.v) : PDen gt0 Try.prog 31 [.ag m.e] (iE m.to) := by
  refine PDen.hc gnm0 hF31 (fun x hx => by simp at hx; subst hx; exact mv_e hn) (.i _ _) ?_
  conv => whnf
  refine sgo ?_
  rfl
theorem c35_den (m : Mv) (hn : Nm s0.L m.v) : PDen gt0 Try.prog 35 [.ag m.e] (pE (m.to, m.kd)) := by
  have h : Den gt0 Try.prog 35 [.ag m.e] s0 (pE (m.to, m.kd)) s0 := by
    refine Den.tidy fun hty => Den.hm gnm0 hF35 ?_
    have K := Kn.init hty.1 nox0
    conv => whnf
    refine kgo ?_; (repeat (first | intro (X:Nat) | intro (z:St) | intro (av:V) | intro (tk:Option Nat) | (intro (K1:Kn _ _ _); (try clear K); rename Kn _ _ _ => K))); conv => whnf
    exact K.ret [pE (m.to, m.kd)] hty nox0 (pE_nm _ _) (.refl _)
  exact Den.pure gnm0 (fun x hx => by simp at hx; subst hx; exact mv_e hn) (pE_nm _ _) h
theorem c39_den (m : Mv) (hn : Nm s0.L m.v) : PDen gt0 Try.prog 39 [.ag m.e] (pE (m.og, m.to)) := by
  have h : Den gt0 Try.prog 39 [.ag m.e] s0 (pE (m.og, m.to)) s0 := by
    refine Den.tidy fun hty => Den.hm gnm0 hF39 ?_
    have K := Kn.init hty.1 nox0
    conv => whnf
    refine kgo ?_; (repeat (first | intro (X:Nat) | intro (z:St) | intro (av:V) | intro (tk:Option Nat) | (intro (K1:Kn _ _ _); (try clear K); rename Kn _ _ _ => K))); conv => whnf
    exact K.ret [pE (m.og, m.to)] hty nox0 (pE_nm _ _) (.refl _)
  exact Den.pure gnm0 (fun x hx => by simp at hx; subst hx; exact mv_e hn) (pE_nm _ _) h
theorem sortsB (m : Nat) : AnyZI.SortsIn Try.prog Try.sortedB_ren Fence.wide m :=
  ⟨fun blk off cap ss W hH hblk hsz => callsIn_wide.2 (AnyM.slices_Sort_int Try.sortB blk off cap ss W hH hblk hsz),
   fun p cap W => callsIn_wide.2 (AnyM.slices_Sort_int_none Try.sortB p cap W)⟩
theorem hcB (w : World) (Bm b nn : Nat) (D0 : DataW Unit) (hBm : Bm < w.heap.size) (hm : w.cell? ⟨Bm, 0, none⟩ = some (.map (some b))) (hown : w.ownsMap Try.prog 3 rT b nn D0) (hmax : Maps.size D0 ≤ maxLen) (hbytes : Maps.size D0 * 8 ≤ 140737488355328) :
    Calls Try.prog 32 #[.func (.func 45) #[] #[.pointer (some ⟨Bm, 0, none⟩)]] w fun e w' => ∃ (v : Value) (ss : List Int), e = .returned v ∧ ss.Perm (intKeys D0) ∧ w'.ownsRow w.heap.size 3 1 v ss.length ((ss.mergeSort fun x y => decide (x ≤ y)).map encZ) ∧ Below w.heap.size w w' := by
  refine (callsIn_wide (n := 5)).1 ?_
  have hseq : SeqGives Fence.wide 2 Try.prog 45 #[.pointer (some ⟨Bm, 0, none⟩)] encZ (fun ss => ss.Perm (intKeys D0)) (Maps.size D0) w :=
    AnyZI.keys_gives (ρ := Try.keysB_ren) { Try.keysB with } Fence.wide _ trivial rfl (by omega) Bm b nn D0 w hBm hm hown
  have cS := AnyZI.sorted_in Try.sortedB Fence.wide 5 trivial trivial trivial trivial rfl (by omega) (sortsB _) (enters_of Try.func44 (by kernel_rfl) rfl) 45 #[.pointer (some ⟨Bm, 0, none⟩)] trivial (enters_of Try.func45 (by kernel_rfl) rfl) _ _ hmax hbytes _ hseq
  change CallsIn _ _ Try.prog 32 _ _ _ at cS
  exact cS.mono fun e w' ⟨v, ss, h1, h2, h3, _, h5⟩ => ⟨v, ss, h1, h2, h3, h5⟩
theorem sorted32_den {sE : (Int × Int × Int × Int) → V} {s : St} {B M clk zf ty : Nat} {l : List (Int × (Int × Int × Int × Int))} (hB : s.get B = some (.c [.m M] zf (some ty))) (hM : s.get M = some (.x (.mp (mEs (fun k => .i .i64 k) sE l 0) clk))) (hc : clk = l.length)
    (hk : ∀ k ∈ keysL l, (Lit.int .i64 k).wf = true) (hd : (keysL l).Nodup) (hn : l.length ≤ 1000000) :
    Den gt0 Try.prog 32 [.fn 45 [.p B 0]] s (.pu 1 (((keysL l).mergeSort fun x y => decide (x ≤ y)).map fun k => .i .i64 k) .u) s :=
  sortedI_den (T := 3) (T' := 3) (by kernel_rfl) hcB hB hM hc hk hd hn
theorem keys33_den {s : St} {M : Nat} : Den gt0 Try.prog 33 [.m M] s (.fn 45 [.p s.n 0]) (s.new (.c [.m M] 0 (some 92))) := by
  refine Den.hm gnm0 hF33 ?_
  conv => whnf
  refine sgh ?_
  refine HO.k ?_
  conv => whnf
  refine sgh ?_
  exact ⟨.refl _, fun hg => ⟨WkS.refl hg, .inl rfl⟩⟩
theorem keys37_den {s : St} {M : Nat} : Den gt0 Try.prog 37 [.m M] s (.fn 48 [.p s.n 0]) (s.new (.c [.m M] 0 (some 100))) := by
  refine Den.hm gnm0 hF37 ?_
  conv => whnf
  refine sgh ?_
  refine HO.k ?_
  conv => whnf
  refine sgh ?_
  exact ⟨.refl _, fun hg => ⟨WkS.refl hg, .inl rfl⟩⟩
end Go.Proofs.Ythoojnjcdllgdaa
