/-
  A map's keys that are pairs, collected into a row. No statement stands here.
-/
import Derived.Test.YthoojnjcdllgdaaGreatDoorTpb
set_option linter.all false
namespace Go.Proofs.YthoojnjcdllgdaaGreatDoor
open Go Go.RowKit Go.Maps Go.Sort Go.Shelf Go.Proofs
set_option maxRecDepth 100000
set_option maxHeartbeats 4000000

def KeysP (D0 : DataW Unit) (ss : List (Int × Int)) : Prop := ∃ left, CollP D0 left ss ∧ ∀ kl, left kl = false
theorem keysP_gives (n : Nat) (hn : 1 ≤ n) (Bm b nn : Nat) (D0 : DataW Unit) (w : World) (hBm : Bm < w.heap.size) (hm : w.cell? ⟨Bm, 0, none⟩ = some (.map (some b))) (hown : w.ownsMap Tryz.prog 109 rP b nn D0) :
    SeqGives Fence.wide n Tryz.prog 56 #[.pointer (some ⟨Bm, 0, none⟩)] encP (KeysP D0) (Maps.size D0) w := fun l J W hW hJ hY h0 => by
  have hown' : W.ownsMap Tryz.prog 109 rP b nn D0 := by
    have hbl := hown.lt
    obtain ⟨es, clock, hb, Ft, hs, hD⟩ := hown
    exact ⟨es, clock, (hW.block b hbl).trans hb, Ft, hs, hD⟩
  exact keys1P_in n hn l Bm b nn D0 J hY W hJ ((hW.cell (p := ⟨Bm, 0, none⟩) hBm).trans hm) hown' h0
def encF (ss : List (Int × Int)) : List Value := ss.flatMap fun x => [.int .i64 x.1, .int .i64 x.2]
def paA : Code := Code.region 2 #[{ dst := some 5, op := Op.alloc 109, type := 0, pos := "iter.go:51", after := #[], guard := none }, { dst := none, op := Op.store 109 (Operand.tmp 5) (Operand.tmp 7), type := 0, pos := "iter.go:51", after := #[{ on := 0, ground := Ground.data }, { on := 0, ground := Ground.phase }], guard := none }] false
def paB : Code := Code.block 1 (Code.region 3 #[{ dst := some 8, op := Op.load 111 (Operand.tmp 2), type := 111, pos := "iter.go:52", after := #[], guard := none }, { dst := some 9, op := Op.load 109 (Operand.tmp 5), type := 109, pos := "iter.go:52", after := #[], guard := none }, { dst := some 10, op := Op.buildSlice 111 1 #[(0, Operand.tmp 9)], type := 111, pos := "iter.go:52", after := #[{ on := 1, ground := Ground.data }], guard := none }, { dst := some 11, op := Op.call { callee := Callee.builtin Builtin.append, args := #[Operand.tmp 8, Operand.tmp 10], argTypes := #[111, 111] }, type := 111, pos := "iter.go:52", after := #[{ on := 0, ground := Ground.data }, { on := 2, ground := Ground.data }], guard := none }, { dst := none, op := Op.store 111 (Operand.tmp 2) (Operand.tmp 11), type := 0, pos := "iter.go:52", after := #[{ on := 3, ground := Ground.data }, { on := 3, ground := Ground.chain }, { on := 0, ground := Ground.phase }, { on := 1, ground := Ground.phase }, { on := 2, ground := Ground.phase }, { on := 3, ground := Ground.phase }], guard := none }] false)
def paRec (fn : FuncId) (sv : Value) (Bs D : Nat) (st : LoopState) (pend : Option Code) : Loop :=
  { state := st, pending := pend, fn, tmps := #[.slice none 0 0, sv, .pointer (some ⟨Bs, 0, none⟩), undef, .slice none 0 0, undef, sv, undef, undef, undef, undef, undef, undef], params := #[7], assign := paA, body := paB, defers := D }
structure PaAt (w0 : World) (fn : FuncId) (sv : Value) (Bs l D : Nat) (ss : List (Int × Int)) (W : World) : Prop where
  box : ∃ v, W.heap[Bs]? = some (.cells #[v] 111 (0, 0)) ∧ W.ownsRow w0.heap.size 109 2 v ss.length (encF ss)
  L : W.heap[l]? = some (.loop (paRec fn sv Bs D .ready none))
  K : W.heap[D]? = some (.deferred (some []))
  below : Below w0.heap.size w0 W
theorem pa_abides (w0 : World) (fn : FuncId) (sv : Value) (Bs l D B : Nat) (hB : w0.heap.size ≤ B) : AbidesFrom B (PaAt w0 fn sv Bs l D) := fun s W W' row h hg hrow => by
  have hrow' : ∀ r, row = some r → ∃ o : Obj, W.heap[r]? = some o ∧ o.isWalk = true := fun r e => (hrow r e).2
  obtain ⟨v, hv, hr⟩ := h.box
  exact ⟨⟨v, (grownBy_keeps hg hrow' hv rfl).trans hv, ownsRow_abides_a hr hg hrow'⟩, (grownBy_keeps hg hrow' h.L rfl).trans h.L, (grownBy_keeps hg hrow' h.K rfl).trans h.K,
    h.below.grown hg h.below.size (fun k e => Nat.le_trans hB (hrow k e).1)⟩
theorem i103 : (Tryz.prog.info? 109).map (fun i => (i.zero, i.size, i.bytes)) = some (some (.agg #[.int .i64 0, .int .i64 0]), 2, 16) := by kernel_rfl
theorem encF_len (ss : List (Int × Int)) : (encF ss).length = ss.length * 2 := by
  induction ss with
  | nil => rfl
  | cons x ss ih => simp only [encF, List.flatMap_cons, List.length_append, List.length_cons, List.length_nil] at *; omega
theorem cell_two_new (w : World) (x y : Value) (t : TypeId) : ∀ j u, [x, y][j]? = some u → (w.alloc (.cells #[x, y] t)).cell? ((⟨w.heap.size, 0, none⟩ : Addr).add j) = some u := by
  intro j u hj
  match j, hj with
  | 0, hj =>
    simp at hj
    subst hj
    simp [Addr.add]
  | 1, hj =>
    simp at hj
    subst hj
    have h := World.alloc_heap_new w (.cells #[x, y] t)
    show (match (w.alloc (.cells #[x, y] t)).heap[w.heap.size]? with | some (.cells c _ _) => if (none : Option Nat).isSome then none else c[1]? | _ => none) = some y
    rw [h]; rfl
theorem paYield (m : Nat) (w0 : World) (fn : FuncId) (sv : Value) (Bs l D : Nat) (hBl : Bs ≠ l) (hDl : D ≠ l) (hDB : D ≠ Bs) (h0B : w0.heap.size ≤ Bs) (h0l : w0.heap.size ≤ l)
    (N : Nat) (hN : N ≤ maxLen) (hNb : N * 16 ≤ 140737488355328) (ss : List (Int × Int)) (x : Int × Int) (W : World) (h : PaAt w0 fn sv Bs l D ss W) (hlen : ss.length < N) :
    YieldAt Fence.wide m Tryz.prog l #[encP x] W fun e W' => e = .returned (.bool true) ∧ PaAt w0 fn sv Bs l D (ss ++ [x]) W' ∧ KeepsWalks W W' := by
  have mixed : Tryz.prog.follows .mixedOrders = true := by kernel_rfl
  have t0 := Tryz.underlying0; have a0 := Tryz.isAgg0; have z0 := Tryz.sizeOf0; have v0 := Tryz.zeroValue0; have t24 := Tryz.underlying111; have a24 := Tryz.isAgg111; have z24 := Tryz.sizeOf111; have v24 := Tryz.zeroValue111; have t26 := Tryz.underlying109; have a26 := Tryz.isAgg109; have z26 := Tryz.sizeOf109; have v26 := Tryz.zeroValue109; have t28 := Tryz.underlying114; have a28 := Tryz.isAgg114; have z28 := Tryz.sizeOf114; have v28 := Tryz.zeroValue114
  have u0 := run_underlying Tryz.underlying0; have u24 := run_underlying Tryz.underlying111; have u28 := run_underlying Tryz.underlying114
  obtain ⟨i0, hi, hz0, hz1, hz2⟩ := info_parts i103
  obtain ⟨v, hv, hrow⟩ := h.box
  refine ⟨fn, #[.slice none 0 0, sv, .pointer (some ⟨Bs, 0, none⟩), undef, .slice none 0 0, undef, sv, encP x, undef, undef, undef, undef, undef], paA, paB, by simpa [paRec] using run_yield (P := Tryz.prog) (args := #[encP x]) h.L rfl, roundIn_of_wpIn trivial ?_⟩
  obtain ⟨x1, x2⟩ := x
  obtain ⟨WA, hWA⟩ : ∃ WA, W.alloc (.cells #[.int .i64 x1, .int .i64 x2] 109) = WA := ⟨_, rfl⟩
  have hgA : ∀ row, W.grownBy WA row := by rw [← hWA]; exact World.grownBy_alloc _ _
  have hsA : WA.heap.size = W.heap.size + 1 := by rw [← hWA]; simp
  have hnA : WA.heap[W.heap.size]? = some (.cells #[.int .i64 x1, .int .i64 x2] 109 (0, 0)) := by rw [← hWA]; exact World.alloc_heap_new W _
  have hold : ∀ k, k < W.heap.size → WA.heap[k]? = W.heap[k]? := fun k hk => by rw [← hWA]; exact Below.heap_alloc _ _ k hk
  have hkA : KeepsWalks W WA := by rw [← hWA]; exact KeepsWalks.alloc _ _
  have hrowA : WA.ownsRow w0.heap.size 109 2 v ss.length (encF ss) := by rw [← hWA]; exact hrow.alloc _
  have hbA : Below w0.heap.size w0 WA := by rw [← hWA]; exact h.below.alloc h.below.size _
  have hlt : ∀ {k : Nat} {o : Obj}, W.heap[k]? = some o → k < W.heap.size := fun h => (Array.getElem?_eq_some_iff.1 h).1
  have hvA := (hold Bs (hlt hv)).trans hv
  have hKA := (hold D (hlt h.K)).trans h.K
  have hLA := (hold l (hlt h.L)).trans h.L
  have hl : l < W.heap.size := hlt h.L
  have hbr := run_beginRound (P := Tryz.prog) hLA rfl
  obtain ⟨W2, hW2⟩ : ∃ W2, WA.putObj l (.loop { paRec fn sv Bs D .ready none with state := .busy }) = W2 := ⟨_, rfl⟩
  rw [hW2] at hbr
  have hg2 : WA.grownBy W2 (some l) := by rw [← hW2]; exact grownBy_putObj_a _ _ _
  have hk2 : KeepsWalks W W2 := hkA.trans (by rw [← hW2]; exact KeepsWalks.putObj _ hLA rfl)
  have hv2 : W2.heap[Bs]? = some (.cells #[v] 111 (0, 0)) := by rw [← hW2]; exact (World.putObj_heap_other hBl).trans hvA
  have hK2 : W2.heap[D]? = some (.deferred (some [])) := by rw [← hW2]; exact (World.putObj_heap_other hDl).trans hKA
  have hn2 : W2.heap[W.heap.size]? = some (.cells #[.int .i64 x1, .int .i64 x2] 109 (0, 0)) := by rw [← hW2]; exact (World.putObj_heap_other (by omega)).trans hnA
  have hL2 : W2.heap[l]? = some (.loop { paRec fn sv Bs D .ready none with state := .busy }) := by rw [← hW2]; exact World.putObj_heap_same (by omega)
  have hrow2 : W2.ownsRow w0.heap.size 109 2 v ss.length (encF ss) := hrowA.kept hg2 (ownsRow_ne_a hrowA hLA (fun cur e => by cases e))
  have hb2 : Below w0.heap.size w0 W2 := hbA.grown hg2 hbA.size (fun k e => by cases e; exact h0l)
  have hc0 : W2.cell? ⟨W.heap.size, 0, none⟩ = some (.int .i64 x1) := by simp [World.cell?, hn2]
  have hc1 : W2.cell? ⟨W.heap.size, 1, none⟩ = some (.int .i64 x2) := by simp [World.cell?, hn2]
  obtain ⟨hc2, hf2⟩ := cell_of_box_a hv2
  have hBlt : Bs < W2.heap.size := (Array.getElem?_eq_some_iff.1 hv2).1
  have hl2 : l < W2.heap.size := (Array.getElem?_eq_some_iff.1 hL2).1
  have hDlt : D < W2.heap.size := (Array.getElem?_eq_some_iff.1 hK2).1
  have ne_of : ∀ {j : Nat} {o : Obj}, W2.heap[j]? = some o → (∀ cur, o ≠ .cells cur 109 (0, 0)) → some j ≠ v.ownBlock := fun hj hno => by
    rcases ownsRow_ne_a hrow2 hj hno with e | e
    · rw [e]; simp
    · exact fun e' => e e'.symm
  clear hW2 hgA hold hkA hrowA hbA hlt hvA hKA hLA
  unfold paA
  gi_wp2_with gi_round_op_a
  unfold paB
  gi_wp2_with (first
    | (gi_at_builtin; refine wpListIn_append_own _ rfl _ _ 111 rfl w0.heap.size 109 i0 (.agg #[.int .i64 0, .int .i64 0]) 2 16 Tryz.underlying111 hi hz0 hz1 hz2 rfl (by decide) _ _ _ rfl (hrow2.alloc _) ⟨W2.heap.size, 0, none⟩ 1 1 [.int .i64 x1, .int .i64 x2] rfl rfl (cell_two_new _ _ _ _) (by simp [Value.oneCell']) (by omega) (by omega) (by have := hb2.size; simp; omega) ?_; intro v' w3 hown' hg3 hnil3
       have hv3 : w3.heap[Bs]? = some (.cells #[v] 111 (0, 0)) := (hg3.block Bs (by simp; omega) (ne_of hv2 (fun cur e => by cases e))).trans ((Below.heap_alloc _ _ Bs hBlt).trans hv2)
       obtain ⟨hc3, hf3⟩ := cell_of_box_a hv3
       obtain ⟨g', cap', cur', rfl, hbase', hgb', hr1, hr2, hr3, hr4⟩ : ∃ g' cap' cur', v' = .slice (some ⟨g', 0, none⟩) (ss.length + 1) cap' ∧ w0.heap.size ≤ g' ∧ w3.heap[g']? = some (.cells cur' 109 (0, 0)) ∧ ss.length + 1 ≤ cap' ∧ cap' ≤ maxLen ∧ cur'.size = cap' * 2 ∧ cur'.toList.take ((ss.length + 1) * 2) = encF ss ++ [.int .i64 x1, .int .i64 x2] := by
         rcases hown'.2 with ⟨_, h0⟩ | h'
         · exact absurd h0 (by omega)
         · exact h'
       go_frame)
    | gi_round_op_a)
  have hg3' : (W2.alloc (.cells #[.int .i64 x1, .int .i64 x2] 109)).grownBy w3 v.ownBlock := hg3
  have hL3 : w3.heap[l]? = some (.loop { paRec fn sv Bs D .ready none with state := .busy }) := (hg3'.block l (by simp; omega) (ne_of hL2 (fun cur e => by cases e))).trans ((Below.heap_alloc _ _ l hl2).trans hL2)
  have hK3 : w3.heap[D]? = some (.deferred (some [])) := (hg3'.block D (by simp; omega) (ne_of hK2 (fun cur e => by cases e))).trans ((Below.heap_alloc _ _ D hDlt).trans hK2)
  obtain ⟨w4, hw4⟩ : ∃ w4, w3.setCell ⟨Bs, 0, none⟩ (.slice (some ⟨g', 0, none⟩) (ss.length + 1) cap') = w4 := ⟨_, rfl⟩
  rw [hw4]
  have hg4 : w3.grownBy w4 (some Bs) := by rw [← hw4]; exact grownBy_setCell0_a _ _ _
  have hv4 : w4.heap[Bs]? = some (.cells #[.slice (some ⟨g', 0, none⟩) (ss.length + 1) cap'] 111 (0, 0)) := by rw [← hw4]; exact heap_setCell_box_a _ hv3
  have hL4 : w4.heap[l]? = some (.loop { paRec fn sv Bs D .ready none with state := .busy }) := (hg4.block l (Array.getElem?_eq_some_iff.1 hL3).1 (fun e => hBl (by cases e; rfl))).trans hL3
  have hK4 : w4.heap[D]? = some (.deferred (some [])) := (hg4.block D (Array.getElem?_eq_some_iff.1 hK3).1 (fun e => hDB (by cases e; rfl))).trans hK3
  have hrow4 := hown'.kept hg4 (ownsRow_ne_a hown' hv3 (fun cur e => by cases e))
  have hl4 : l < w4.heap.size := (Array.getElem?_eq_some_iff.1 hL4).1
  have hb3 : Below w0.heap.size w0 w3 := (hb2.alloc hb2.size _).grown hg3' (by have := hb2.size; simp; omega) (fun k e => (hrow2.lt k e).1)
  have hb4 : Below w0.heap.size w0 w4 := hb3.grown hg4 hb3.size (fun k e => by cases e; exact h0B)
  have hk4 : KeepsWalks W w4 := ((hk2.trans (KeepsWalks.alloc _ _)).trans (KeepsWalks.of_grownBy hg3' (ownsRow_not_walk_a (hrow2.alloc _)))).trans (by rw [← hw4]; exact KeepsWalks.setCell _ _ _)
  clear hw4
  refine ⟨_, _, run_endRound none hL4, rfl, ⟨⟨_, (World.putObj_heap_other hBl).trans hv4, ?_⟩, World.putObj_heap_same hl4, (World.putObj_heap_other hDl).trans hK4, hb4.grown (grownBy_putObj_a _ _ _) hb4.size (fun k e => by cases e; exact h0l)⟩, hk4.trans (KeepsWalks.putObj _ hL4 rfl)⟩
  have := hrow4.kept (grownBy_putObj_a w4 l (.loop { { paRec fn sv Bs D .ready none with state := .busy } with state := if (none : Option Code).isNone then .ready else .done, pending := none })) (ownsRow_ne_a hrow4 hL4 (fun cur e => by cases e))
  have e : encF (ss ++ [(x1, x2)]) = encF ss ++ [.int .i64 x1, .int .i64 x2] := by simp [encF]
  rw [e]
  simpa using this
end Go.Proofs.YthoojnjcdllgdaaGreatDoor
