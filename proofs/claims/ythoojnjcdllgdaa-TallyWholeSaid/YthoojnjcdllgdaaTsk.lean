/-
  Contracts: a map's keys, sorted. No statement stands here.
-/
import Derived.Test.YthoojnjcdllgdaaShelf
import Derived.Test.YthoojnjcdllgdaaCode
import Derived.Test.YthoojnjcdllgdaaTsort
import Derived.Shelf.SortM.Plain
import Derived.Shelf.SortM.SortNone
import Derived.Shelf.AbstractIn
set_option linter.all false
namespace Go.Proofs.Ythoojnjcdllgdaa
open Go Rf TallyP Go.RowKit Go.Maps Go.Sort Go.Shelf Go.Proofs
set_option maxRecDepth 100000
set_option maxHeartbeats 4000000

theorem sortsA (m : Nat) : AnyZI.SortsIn Try.prog Try.sortedA_ren Fence.wide m :=
  ⟨fun blk off cap ss W hH hblk hsz => callsIn_wide.2 (AnyM.slices_Sort_int Try.sortA blk off cap ss W hH hblk hsz),
   fun p cap W => callsIn_wide.2 (AnyM.slices_Sort_int_none Try.sortA p cap W)⟩
theorem hcA (w : World) (Bm b nn : Nat) (D0 : DataW Unit) (hBm : Bm < w.heap.size) (hm : w.cell? ⟨Bm, 0, none⟩ = some (.map (some b))) (hown : w.ownsMap Try.prog 2 rT b nn D0) (hmax : Maps.size D0 ≤ maxLen) (hbytes : Maps.size D0 * 8 ≤ 140737488355328) :
    Calls Try.prog 25 #[.func (.func 42) #[] #[.pointer (some ⟨Bm, 0, none⟩)]] w fun e w' => ∃ (v : Value) (ss : List Int), e = .returned v ∧ ss.Perm (intKeys D0) ∧ w'.ownsRow w.heap.size 2 1 v ss.length ((ss.mergeSort fun x y => decide (x ≤ y)).map encZ) ∧ Below w.heap.size w w' := by
  refine (callsIn_wide (n := 5)).1 ?_
  have hseq : SeqGives Fence.wide 2 Try.prog 42 #[.pointer (some ⟨Bm, 0, none⟩)] encZ (fun ss => ss.Perm (intKeys D0)) (Maps.size D0) w :=
    AnyZI.keys_gives (ρ := Try.keysA_ren) { Try.keysA with } Fence.wide _ trivial rfl (by omega) Bm b nn D0 w hBm hm hown
  have cS := AnyZI.sorted_in Try.sortedA Fence.wide 5 trivial trivial trivial trivial rfl (by omega) (sortsA _) (enters_of Try.func41 (by kernel_rfl) rfl) 42 #[.pointer (some ⟨Bm, 0, none⟩)] trivial (enters_of Try.func42 (by kernel_rfl) rfl) _ _ hmax hbytes _ hseq
  change CallsIn _ _ Try.prog 25 _ _ _ at cS
  exact cS.mono fun e w' ⟨v, ss, h1, h2, h3, _, h5⟩ => ⟨v, ss, h1, h2, h3, h5⟩
theorem sorted25_den {sE : (Int × Int × Int × Int) → V} {s : St} {B M clk zf ty : Nat} {l : List (Int × (Int × Int × Int × Int))} (hB : s.get B = some (.c [.m M] zf (some ty))) (hM : s.get M = some (.x (.mp (mEs (fun k => .i .i64 k) sE l 0) clk))) (hc : clk = l.length)
    (hk : ∀ k ∈ keysL l, (Lit.int .i64 k).wf = true) (hd : (keysL l).Nodup) (hn : l.length ≤ 1000000) :
    Den gt0 Try.prog 25 [.fn 42 [.p B 0]] s (.pu 1 (((keysL l).mergeSort fun x y => decide (x ≤ y)).map fun k => .i .i64 k) .u) s :=
  sortedI_den (T := 2) (T' := 2) (by kernel_rfl) hcA hB hM hc hk hd hn
theorem keys26_den {s : St} {M : Nat} : Den gt0 Try.prog 26 [.m M] s (.fn 42 [.p s.n 0]) (s.new (.c [.m M] 0 (some 79))) := by
  refine Den.hm gnm0 hF26 ?_
  conv => whnf
  refine sgh ?_
  refine HO.k ?_
  conv => whnf
  refine sgh ?_
  exact ⟨.refl _, fun hg => ⟨WkS.refl hg, .inl rfl⟩⟩
end Go.Proofs.Ythoojnjcdllgdaa
