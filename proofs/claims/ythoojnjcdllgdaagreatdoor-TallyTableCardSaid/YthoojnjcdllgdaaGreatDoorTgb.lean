/-
  Contracts: sums of events by keys of any kind, gathered in a map. No statement stands here.
-/
import Derived.Test.YthoojnjcdllgdaaGreatDoorTph
set_option linter.all false
namespace Go.Proofs.YthoojnjcdllgdaaGreatDoor
open Go Rf TallyP
set_option maxRecDepth 100000
set_option maxHeartbeats 4000000

def f23g (kk : KK) : Rf.F := { np := 2, nt := 61, body := C.seq (C.ops [⟨some 4, none, K.a (A.mov (Arg.c (V.nm)))⟩]) (C.seq (C.ops [⟨some 11, none, K.a (A.ym (Rf.Y.mkm) [])⟩, ⟨some 5, none, K.a (A.mov (Arg.t 11))⟩]) (C.seq (C.seq (C.ops [⟨some 12, none, K.a (A.mov (Arg.t 0))⟩, ⟨some 13, none, K.a (A.len (Arg.t 12))⟩, ⟨some 14, none, K.a (A.mov (Arg.c (V.i (Go.IntKind.i64) 0)))⟩]) (C.blk 0 (C.loop (C.seq (C.ops [⟨some 15, none, K.a (A.bin (Go.BinOp.lss) (Arg.t 14) (Arg.t 13))⟩]) (C.seq (C.cond (Arg.t 15) (C.skip) (C.exit 0)) (C.seq (C.blk 1 (C.seq (C.ops [⟨some 16, none, K.a (A.ia 47 (Arg.t 12) (Arg.t 14))⟩, ⟨some 17, none, K.a (A.loadn 47 (Arg.t 16))⟩, ⟨some 7, none, K.a (A.alloc 55 [V.i (Go.IntKind.i64) 0, V.i (Go.IntKind.i64) 0, V.i (Go.IntKind.i64) 0, V.i (Go.IntKind.u32) 0, V.i (Go.IntKind.i64) 0, V.ns, V.i (Go.IntKind.i64) 0, V.i (Go.IntKind.i64) 0, V.i (Go.IntKind.i64) 0, V.i (Go.IntKind.i64) 0, V.i (Go.IntKind.i64) 0, V.i (Go.IntKind.i64) 0, V.i (Go.IntKind.u32) 0, V.i (Go.IntKind.i64) 0, V.i (Go.IntKind.i64) 0, V.i (Go.IntKind.i64) 0, V.i (Go.IntKind.i64) 0, V.i (Go.IntKind.i64) 0, V.i (Go.IntKind.i64) 0, V.i (Go.IntKind.i64) 0, V.i (Go.IntKind.u32) 0, V.i (Go.IntKind.i64) 0, V.i (Go.IntKind.i64) 0, V.ns, V.i (Go.IntKind.i64) 0, V.i (Go.IntKind.i64) 0, V.i (Go.IntKind.i64) 0, V.i (Go.IntKind.i64) 0, V.i (Go.IntKind.i64) 0, V.i (Go.IntKind.i64) 0, V.i (Go.IntKind.u32) 0, V.i (Go.IntKind.i64) 0, V.i (Go.IntKind.i64) 0, V.i (Go.IntKind.i64) 0, V.i (Go.IntKind.i64) 0, V.i (Go.IntKind.i64) 0, V.i (Go.IntKind.i64) 0, V.i (Go.IntKind.i64) 0, V.i (Go.IntKind.i64) 0, V.i (Go.IntKind.i64) 0, V.i (Go.IntKind.i64) 0, V.i (Go.IntKind.i64) 0, V.i (Go.IntKind.i64) 0, V.i (Go.IntKind.i64) 0, V.ns, V.i (Go.IntKind.u32) 0, V.i (Go.IntKind.i64) 0])⟩, ⟨none, none, K.a (A.store 47 (Arg.t 7) (Arg.t 17))⟩]) (C.seq (C.seq (C.ops [⟨some 18, none, K.a (A.loadn 47 (Arg.t 7))⟩, ⟨some 19, none, K.call 25 [Arg.t 18]⟩, ⟨some 20, none, K.a (A.not (Arg.t 19))⟩]) (C.cond (Arg.t 20) (C.exit 1) (C.skip))) (C.seq (C.ops [⟨some 21, none, K.a (A.fa 37 (Arg.t 7))⟩, ⟨some 22, none, K.a (A.fa 1 (Arg.t 21))⟩, ⟨some 23, none, K.a (A.loadn 6 (Arg.t 22))⟩, ⟨some 8, none, K.a (A.alloc 38 [V.i (Go.IntKind.i64) 0, V.i (Go.IntKind.i64) 0, V.i (Go.IntKind.i64) 0, V.i (Go.IntKind.i64) 0, V.i (Go.IntKind.i64) 0, V.i (Go.IntKind.i64) 0])⟩, ⟨none, none, K.a (A.store 6 (Arg.t 8) (Arg.t 23))⟩]) (C.seq (C.ops [⟨some 25, none, K.a (A.mov (Arg.t 5))⟩, ⟨some 26, none, K.a (A.mov (Arg.t 1))⟩, ⟨some 27, none, K.a (A.loadn 6 (Arg.t 8))⟩, ⟨some 28, none, K.callv (Arg.t 26) [Arg.t 27]⟩, ⟨some 29, none, K.a (A.ym (Rf.Y.look kk true (V.ag [V.i (Go.IntKind.i64) 0, V.i (Go.IntKind.i64) 0, V.i (Go.IntKind.i64) 0, V.i (Go.IntKind.i64) 0])) [Arg.t 25, Arg.t 28])⟩, ⟨some 24, none, K.a (A.mov (Arg.t 29))⟩, ⟨some 30, none, K.a (A.ext (Arg.t 24) 0)⟩, ⟨some 31, none, K.a (A.ext (Arg.t 24) 1)⟩, ⟨some 9, none, K.a (A.alloc 96 [V.i (Go.IntKind.i64) 0, V.i (Go.IntKind.i64) 0, V.i (Go.IntKind.i64) 0, V.i (Go.IntKind.i64) 0])⟩, ⟨none, none, K.a (A.store 4 (Arg.t 9) (Arg.t 30))⟩, ⟨some 10, none, K.a (A.mov (Arg.t 31))⟩]) (C.seq (C.seq (C.ops [⟨some 32, none, K.a (A.mov (Arg.t 10))⟩, ⟨some 33, none, K.a (A.not (Arg.t 32))⟩]) (C.cond (Arg.t 33) (C.ops [⟨some 34, none, K.a (A.fa 0 (Arg.t 8))⟩, ⟨some 35, none, K.a (A.fa 0 (Arg.t 34))⟩, ⟨some 36, none, K.a (A.load1 (Arg.t 35))⟩, ⟨some 37, none, K.a (A.fa 2 (Arg.t 9))⟩, ⟨none, none, K.a (A.store 1 (Arg.t 37) (Arg.t 36))⟩]) (C.skip))) (C.seq (C.ops [⟨some 38, none, K.a (A.fa 0 (Arg.t 9))⟩, ⟨some 39, none, K.a (A.load1 (Arg.t 38))⟩, ⟨some 40, none, K.a (A.bin (Go.BinOp.add) (Arg.t 39) (Arg.c (V.i (Go.IntKind.i64) 1)))⟩, ⟨some 41, none, K.a (A.fa 0 (Arg.t 9))⟩, ⟨none, none, K.a (A.store 1 (Arg.t 41) (Arg.t 40))⟩]) (C.seq (C.ops [⟨some 42, none, K.a (A.fa 1 (Arg.t 9))⟩, ⟨some 43, none, K.a (A.load1 (Arg.t 42))⟩, ⟨some 44, none, K.a (A.fa 37 (Arg.t 7))⟩, ⟨some 45, none, K.a (A.fa 7 (Arg.t 44))⟩, ⟨some 46, none, K.a (A.load1 (Arg.t 45))⟩, ⟨some 47, none, K.a (A.len (Arg.t 46))⟩, ⟨some 48, none, K.a (A.bin (Go.BinOp.add) (Arg.t 43) (Arg.t 47))⟩, ⟨some 49, none, K.a (A.fa 1 (Arg.t 9))⟩, ⟨none, none, K.a (A.store 1 (Arg.t 49) (Arg.t 48))⟩]) (C.seq (C.ops [⟨some 50, none, K.a (A.fa 0 (Arg.t 8))⟩, ⟨some 51, none, K.a (A.fa 0 (Arg.t 50))⟩, ⟨some 52, none, K.a (A.load1 (Arg.t 51))⟩, ⟨some 53, none, K.a (A.fa 3 (Arg.t 9))⟩, ⟨none, none, K.a (A.store 1 (Arg.t 53) (Arg.t 52))⟩]) (C.drw [(0, ⟨some 55, none, K.a (A.mov (Arg.t 1))⟩), (0, ⟨some 56, none, K.a (A.loadn 6 (Arg.t 8))⟩), (0, ⟨some 57, none, K.callv (Arg.t 55) [Arg.t 56]⟩), (0, ⟨some 54, none, K.a (A.mov (Arg.t 5))⟩), (1, ⟨some 58, none, K.a (A.loadn 4 (Arg.t 9))⟩), (0, ⟨none, none, K.a (A.ym (Rf.Y.upd kk) [Arg.t 54, Arg.t 57, Arg.t 58])⟩)])))))))))) (C.ops [⟨some 59, none, K.a (A.bin (Go.BinOp.add) (Arg.t 14) (Arg.c (V.i (Go.IntKind.i64) 1)))⟩, ⟨some 14, none, K.a (A.mov (Arg.t 59))⟩]))))))) (C.seq (C.ops [⟨some 60, none, K.a (A.mov (Arg.t 5))⟩, ⟨some 4, none, K.a (A.mov (Arg.t 60))⟩]) (C.ret)))), res := [Rs.t 4] }
theorem hG31 : Rf.cF gt0 Tryz.prog (wfa 31) 31 = some (f23g .i) := by kernel_rfl
theorem hG35 : Rf.cF gt0 Tryz.prog (wfa 35) 35 = some (f23g (.g [.i, .i])) := by kernel_rfl
theorem mEs_nmG {KY : Type} {kE : KY → V} (hnm : ∀ (k : KY) (n : Nat → Prop), Nm n (kE k)) {n : Nat → Prop} : ∀ (l : List (KY × Sm)) (b : Nat), ∀ x ∈ mEs kE smV l b, Nm n x.1 ∧ Nm n x.2.1
  | [], _, x, h => by cases h
  | (k, s) :: r, b, x, h => by
    rcases List.mem_cons.1 h with rfl | h
    · exact ⟨hnm _ _, .ag _ fun c hc => by
        simp only [List.mem_cons, List.not_mem_nil, or_false] at hc
        rcases hc with rfl | rfl | rfl | rfl <;> exact .i _ _⟩
    · exact mEs_nmG hnm r (b + 1) x h
theorem iE_nm (k : Int) (n : Nat → Prop) : Nm n (iE k) := .i _ _
theorem pE_nm (k : Int × Int) (n : Nat → Prop) : Nm n (pE k) := .ag _ fun c hc => by
  simp only [List.mem_cons, List.not_mem_nil, or_false] at hc
  rcases hc with rfl | rfl <;> exact .i _ _
theorem gathI_den {f0 : Nat} {wf : Nat → Nat → Bool} (hF0 : Rf.cF gt0 Tryz.prog wf f0 = some (f23g .i)) (F : Nat) (cap : List V) (kf : Mv → Int) (ms : List Mv) (hn : ∀ m ∈ ms, Nm s0.L m.v) (hl : ms.length ≤ 1000) (hc : callOk Tryz.prog F = true) (hkey : ∀ m ∈ ms, PDen gt0 Tryz.prog F (.ag m.e :: cap) (iE (kf m))) (s : St) (hx : NoX s) (R : List (Int × Sm)) (hR : ms.foldl (gath kf) [] = R) :
    Den gt0 Tryz.prog f0 [.pu 47 (ms.map Mv.v) .u, .fn F cap] s (.m s.n) (s.new (.x (.mp (mEs iE smV R 0) R.length))) := by
  have hll : (ms.map Mv.v).length = ms.length := List.length_map ..
  refine Den.tidy fun ht => Den.hm gnm0 hF0 ?_
  have K := Kn.init ht.1 hx
  conv => whnf
  refine kgo ?_; (repeat (first | intro (X:Nat) | intro (z:St) | intro (av:V) | intro (tk:Option Nat) | (intro (K1:Kn _ _ _); (try clear K); rename Kn _ _ _ => K))); conv => whnf
  rw [hll]
  have K1 := K.newX (.mp [] 0)
  clear K; rename Kn _ _ _ => K
  generalize s.new (.x (.mp [] 0)) = z0 at K ⊢
  refine HM.loop gnm0 fun hg => ⟨fun n e z => ∃ (i : Nat) (l : List (Int × Sm)), i ≤ ms.length ∧ n = ms.length - i ∧ e = EG ms F cap s.n i ∧ (ms.drop i).foldl (gath kf) l = R ∧ Kn s z [.ob true s.n (.x (.mp (mEs iE smV l 0) l.length))],
    ⟨ms.length, fg [1, 4, 5, 12, 13, 14] _, _, WkM.fg hg, 0, [], Nat.zero_le _, rfl, rfl, hR, K⟩, ?_⟩
  clear K
  rintro n e z1 ⟨i, l, hi, rfl, rfl, hf, K⟩
  conv => whnf
  refine kgo ?_; (repeat (first | intro (X:Nat) | intro (z:St) | intro (av:V) | intro (tk:Option Nat) | (intro (K1:Kn _ _ _); (try clear K); rename Kn _ _ _ => K))); conv => whnf
  refine brL ⟨fun hlt => ?_, fun hge => ?_⟩ <;> conv => whnf
  · have hmi : ms[i]? = some ms[i] := List.getElem?_eq_getElem hlt
    rw [List.drop_eq_getElem_cons hlt, List.foldl_cons] at hf
    have hnm := hn ms[i] (List.getElem_mem ..)
    have hk := hkey ms[i] (List.getElem_mem ..)
    generalize ms[i] = m at hmi hf hnm hk
    refine kgo ?_; (repeat (first | intro (X:Nat) | intro (z:St) | intro (av:V) | intro (tk:Option Nat) | (intro (K1:Kn _ _ _); (try clear K); rename Kn _ _ _ => K))); conv => whnf
    refine ⟨_, _, ev_den m hnm _, ?_⟩
    cases hev : isEv m <;> conv => whnf
    · refine kgo ?_; (repeat (first | intro (X:Nat) | intro (z:St) | intro (av:V) | intro (tk:Option Nat) | (intro (K1:Kn _ _ _); (try clear K); rename Kn _ _ _ => K))); conv => whnf
      intro hg'
      exact ⟨ms.length - (i + 1), fg [1, 4, 5, 12, 13, 14] _, _, by omega, WkM.fg hg', i + 1, l, hlt, rfl, rfl, by rwa [gath, hev] at hf, K.drop0 rfl⟩
    · refine kgo ?_; (repeat (first | intro (X:Nat) | intro (z:St) | intro (av:V) | intro (tk:Option Nat) | (intro (K1:Kn _ _ _); (try clear K); rename Kn _ _ _ => K))); conv => whnf
      refine ⟨hc, _, _, hk _, ?_⟩
      conv => whnf
      refine kgo ?_; (repeat (first | intro (X:Nat) | intro (z:St) | intro (av:V) | intro (tk:Option Nat) | (intro (K1:Kn _ _ _); (try clear K); rename Kn _ _ _ => K))); conv => whnf
      have hgm := K.get (w := true) (.there (.there .here))
      rw [aym_look1 (k := kf m) enc_i hgm]
      rotate_left
      · rfl
      · rfl
      cases hlk : lkk (kf m) l with
      | none =>
        conv => whnf
        refine kgo ?_; (repeat (first | intro (X:Nat) | intro (z:St) | intro (av:V) | intro (tk:Option Nat) | (intro (K1:Kn _ _ _); (try clear K); rename Kn _ _ _ => K))); conv => whnf
        refine ⟨hc, _, _, hk _, ?_⟩
        conv => whnf
        have hX := K.get (w := true) .here
        have hg2 := K.get (w := true) (.there (.there (.there .here)))
        refine kgo ?_; (repeat (first | intro (X:Nat) | intro (z:St) | intro (av:V) | intro (tk:Option Nat) | (intro (K1:Kn _ _ _); (try clear K); rename Kn _ _ _ => K))); conv => whnf
        rw [aym_upd (k := kf m) (f := gf m) (v := smV (gf m none)) enc_i hg2 (by rw [hlk])]
        rotate_left
        · rfl
        · rfl
        · rfl
        have K1 := K.put (o' := .x (.mp (mEs iE smV (updM (gf m) (kf m) l) 0) (updM (gf m) (kf m) l).length)) (.there (.there (.there .here))) (fun _ => rfl)
        clear K hX hg2; rename Kn _ _ _ => K
        conv => whnf
        refine kgo ?_; (repeat (first | intro (X:Nat) | intro (z:St) | intro (av:V) | intro (tk:Option Nat) | (intro (K1:Kn _ _ _); (try clear K); rename Kn _ _ _ => K))); conv => whnf
        intro hg'
        exact ⟨ms.length - (i + 1), fg [1, 4, 5, 12, 13, 14] _, _, by omega, WkM.fg hg', i + 1, updM (gf m) (kf m) l, hlt, rfl, rfl, by rwa [gath, if_pos hev] at hf, ((K.drop0 rfl).drop0 rfl).drop0 rfl⟩
      | some u =>
        conv => whnf
        refine kgo ?_; (repeat (first | intro (X:Nat) | intro (z:St) | intro (av:V) | intro (tk:Option Nat) | (intro (K1:Kn _ _ _); (try clear K); rename Kn _ _ _ => K))); conv => whnf
        refine ⟨hc, _, _, hk _, ?_⟩
        conv => whnf
        have hX := K.get (w := true) .here
        have hg2 := K.get (w := true) (.there (.there (.there .here)))
        refine kgo ?_; (repeat (first | intro (X:Nat) | intro (z:St) | intro (av:V) | intro (tk:Option Nat) | (intro (K1:Kn _ _ _); (try clear K); rename Kn _ _ _ => K))); conv => whnf
        rw [aym_upd (k := kf m) (f := gf m) (v := smV (gf m (some u))) enc_i hg2 (by rw [hlk])]
        rotate_left
        · rfl
        · rfl
        · rfl
        have K1 := K.put (o' := .x (.mp (mEs iE smV (updM (gf m) (kf m) l) 0) (updM (gf m) (kf m) l).length)) (.there (.there (.there .here))) (fun _ => rfl)
        clear K hX hg2; rename Kn _ _ _ => K
        conv => whnf
        refine kgo ?_; (repeat (first | intro (X:Nat) | intro (z:St) | intro (av:V) | intro (tk:Option Nat) | (intro (K1:Kn _ _ _); (try clear K); rename Kn _ _ _ => K))); conv => whnf
        intro hg'
        exact ⟨ms.length - (i + 1), fg [1, 4, 5, 12, 13, 14] _, _, by omega, WkM.fg hg', i + 1, updM (gf m) (kf m) l, hlt, rfl, rfl, by rwa [gath, if_pos hev] at hf, ((K.drop0 rfl).drop0 rfl).drop0 rfl⟩
  · rw [List.drop_of_length_le hge, List.foldl_nil] at hf
    subst hf
    refine kgo ?_; (repeat (first | intro (X:Nat) | intro (z:St) | intro (av:V) | intro (tk:Option Nat) | (intro (K1:Kn _ _ _); (try clear K); rename Kn _ _ _ => K))); conv => whnf
    exact K.finM ht hx .here (mEs_nmG iE_nm l 0) (.refl _)
theorem gathP_den {f0 : Nat} {wf : Nat → Nat → Bool} (hF0 : Rf.cF gt0 Tryz.prog wf f0 = some (f23g (.g [.i, .i]))) (F : Nat) (cap : List V) (kf : Mv → (Int × Int)) (ms : List Mv) (hn : ∀ m ∈ ms, Nm s0.L m.v) (hl : ms.length ≤ 1000) (hc : callOk Tryz.prog F = true) (hkey : ∀ m ∈ ms, PDen gt0 Tryz.prog F (.ag m.e :: cap) (pE (kf m))) (s : St) (hx : NoX s) (R : List ((Int × Int) × Sm)) (hR : ms.foldl (gath kf) [] = R) :
    Den gt0 Tryz.prog f0 [.pu 47 (ms.map Mv.v) .u, .fn F cap] s (.m s.n) (s.new (.x (.mp (mEs pE smV R 0) R.length))) := by
  have hll : (ms.map Mv.v).length = ms.length := List.length_map ..
  refine Den.tidy fun ht => Den.hm gnm0 hF0 ?_
  have K := Kn.init ht.1 hx
  conv => whnf
  refine kgo ?_; (repeat (first | intro (X:Nat) | intro (z:St) | intro (av:V) | intro (tk:Option Nat) | (intro (K1:Kn _ _ _); (try clear K); rename Kn _ _ _ => K))); conv => whnf
  rw [hll]
  have K1 := K.newX (.mp [] 0)
  clear K; rename Kn _ _ _ => K
  generalize s.new (.x (.mp [] 0)) = z0 at K ⊢
  refine HM.loop gnm0 fun hg => ⟨fun n e z => ∃ (i : Nat) (l : List ((Int × Int) × Sm)), i ≤ ms.length ∧ n = ms.length - i ∧ e = EG ms F cap s.n i ∧ (ms.drop i).foldl (gath kf) l = R ∧ Kn s z [.ob true s.n (.x (.mp (mEs pE smV l 0) l.length))],
    ⟨ms.length, fg [1, 4, 5, 12, 13, 14] _, _, WkM.fg hg, 0, [], Nat.zero_le _, rfl, rfl, hR, K⟩, ?_⟩
  clear K
  rintro n e z1 ⟨i, l, hi, rfl, rfl, hf, K⟩
  conv => whnf
  refine kgo ?_; (repeat (first | intro (X:Nat) | intro (z:St) | intro (av:V) | intro (tk:Option Nat) | (intro (K1:Kn _ _ _); (try clear K); rename Kn _ _ _ => K))); conv => whnf
  refine brL ⟨fun hlt => ?_, fun hge => ?_⟩ <;> conv => whnf
  · have hmi : ms[i]? = some ms[i] := List.getElem?_eq_getElem hlt
    rw [List.drop_eq_getElem_cons hlt, List.foldl_cons] at hf
    have hnm := hn ms[i] (List.getElem_mem ..)
    have hk := hkey ms[i] (List.getElem_mem ..)
    generalize ms[i] = m at hmi hf hnm hk
    refine kgo ?_; (repeat (first | intro (X:Nat) | intro (z:St) | intro (av:V) | intro (tk:Option Nat) | (intro (K1:Kn _ _ _); (try clear K); rename Kn _ _ _ => K))); conv => whnf
    refine ⟨_, _, ev_den m hnm _, ?_⟩
    cases hev : isEv m <;> conv => whnf
    · refine kgo ?_; (repeat (first | intro (X:Nat) | intro (z:St) | intro (av:V) | intro (tk:Option Nat) | (intro (K1:Kn _ _ _); (try clear K); rename Kn _ _ _ => K))); conv => whnf
      intro hg'
      exact ⟨ms.length - (i + 1), fg [1, 4, 5, 12, 13, 14] _, _, by omega, WkM.fg hg', i + 1, l, hlt, rfl, rfl, by rwa [gath, hev] at hf, K.drop0 rfl⟩
    · refine kgo ?_; (repeat (first | intro (X:Nat) | intro (z:St) | intro (av:V) | intro (tk:Option Nat) | (intro (K1:Kn _ _ _); (try clear K); rename Kn _ _ _ => K))); conv => whnf
      refine ⟨hc, _, _, hk _, ?_⟩
      conv => whnf
      refine kgo ?_; (repeat (first | intro (X:Nat) | intro (z:St) | intro (av:V) | intro (tk:Option Nat) | (intro (K1:Kn _ _ _); (try clear K); rename Kn _ _ _ => K))); conv => whnf
      have hgm := K.get (w := true) (.there (.there .here))
      rw [aym_look1 (k := kf m) enc_p hgm]
      rotate_left
      · rfl
      · rfl
      cases hlk : lkk (kf m) l with
      | none =>
        conv => whnf
        refine kgo ?_; (repeat (first | intro (X:Nat) | intro (z:St) | intro (av:V) | intro (tk:Option Nat) | (intro (K1:Kn _ _ _); (try clear K); rename Kn _ _ _ => K))); conv => whnf
        refine ⟨hc, _, _, hk _, ?_⟩
        conv => whnf
        have hX := K.get (w := true) .here
        have hg2 := K.get (w := true) (.there (.there (.there .here)))
        refine kgo ?_; (repeat (first | intro (X:Nat) | intro (z:St) | intro (av:V) | intro (tk:Option Nat) | (intro (K1:Kn _ _ _); (try clear K); rename Kn _ _ _ => K))); conv => whnf
        rw [aym_upd (k := kf m) (f := gf m) (v := smV (gf m none)) enc_p hg2 (by rw [hlk])]
        rotate_left
        · rfl
        · rfl
        · rfl
        have K1 := K.put (o' := .x (.mp (mEs pE smV (updM (gf m) (kf m) l) 0) (updM (gf m) (kf m) l).length)) (.there (.there (.there .here))) (fun _ => rfl)
        clear K hX hg2; rename Kn _ _ _ => K
        conv => whnf
        refine kgo ?_; (repeat (first | intro (X:Nat) | intro (z:St) | intro (av:V) | intro (tk:Option Nat) | (intro (K1:Kn _ _ _); (try clear K); rename Kn _ _ _ => K))); conv => whnf
        intro hg'
        exact ⟨ms.length - (i + 1), fg [1, 4, 5, 12, 13, 14] _, _, by omega, WkM.fg hg', i + 1, updM (gf m) (kf m) l, hlt, rfl, rfl, by rwa [gath, if_pos hev] at hf, ((K.drop0 rfl).drop0 rfl).drop0 rfl⟩
      | some u =>
        conv => whnf
        refine kgo ?_; (repeat (first | intro (X:Nat) | intro (z:St) | intro (av:V) | intro (tk:Option Nat) | (intro (K1:Kn _ _ _); (try clear K); rename Kn _ _ _ => K))); conv => whnf
        refine ⟨hc, _, _, hk _, ?_⟩
        conv => whnf
        have hX := K.get (w := true) .here
        have hg2 := K.get (w := true) (.there (.there (.there .here)))
        refine kgo ?_; (repeat (first | intro (X:Nat) | intro (z:St) | intro (av:V) | intro (tk:Option Nat) | (intro (K1:Kn _ _ _); (try clear K); rename Kn _ _ _ => K))); conv => whnf
        rw [aym_upd (k := kf m) (f := gf m) (v := smV (gf m (some u))) enc_p hg2 (by rw [hlk])]
        rotate_left
        · rfl
        · rfl
        · rfl
        have K1 := K.put (o' := .x (.mp (mEs pE smV (updM (gf m) (kf m) l) 0) (updM (gf m) (kf m) l).length)) (.there (.there (.there .here))) (fun _ => rfl)
        clear K hX hg2; rename Kn _ _ _ => K
        conv => whnf
        refine kgo ?_; (repeat (first | intro (X:Nat) | intro (z:St) | intro (av:V) | intro (tk:Option Nat) | (intro (K1:Kn _ _ _); (try clear K); rename Kn _ _ _ => K))); conv => whnf
        intro hg'
        exact ⟨ms.length - (i + 1), fg [1, 4, 5, 12, 13, 14] _, _, by omega, WkM.fg hg', i + 1, updM (gf m) (kf m) l, hlt, rfl, rfl, by rwa [gath, if_pos hev] at hf, ((K.drop0 rfl).drop0 rfl).drop0 rfl⟩
  · rw [List.drop_of_length_le hge, List.foldl_nil] at hf
    subst hf
    refine kgo ?_; (repeat (first | intro (X:Nat) | intro (z:St) | intro (av:V) | intro (tk:Option Nat) | (intro (K1:Kn _ _ _); (try clear K); rename Kn _ _ _ => K))); conv => whnf
    exact K.finM ht hx .here (mEs_nmG pE_nm l 0) (.refl _)
end Go.Proofs.YthoojnjcdllgdaaGreatDoor
