/-
  TraceCommits holds. No condition beyond the given statement.
-/
import Derived.Test.YtlcpcgcegpfklaaLaw
import Derived.Test.YtlcpcgcegpfklaaRfR
import Derived.Test.YtlcpcgcegpfklaaRfVb
import Derived.WalkKit
import Derived.ProofKit
import Derived.Handed
set_option linter.all false
namespace Go.Proofs.Ytlcpcgcegpfklaa
open Go Rf Go.ChangeShapes Go.WideShapes Go.ChangeAt Go.RowKit
set_option maxRecDepth 100000

theorem lv : leaves Try.prog Try.prog.depth 64 = some [41, 3, 42, 43, 3, 44, 2, 3, 2, 3, 3, 2, 43, 3, 3, 2, 3, 2, 2, 53, 43, 54, 2, 55, 2, 3, 2, 3, 3, 2, 43, 2, 3, 2, 3, 3, 2, 60, 2, 3, 2, 3, 3, 2, 30, 43, 2] := by kernel_rfl
theorem l57 : leaves Try.prog Try.prog.depth 57 = some [2, 3, 2, 3, 3, 2] := by kernel_rfl
theorem u2 : Try.prog.underlying 2 = some (.int .i64) := by kernel_rfl
theorem u3 : Try.prog.underlying 3 = some (.int .i64) := by kernel_rfl
theorem u41 : Try.prog.underlying 41 = some (.int .i64) := by kernel_rfl
theorem u42 : Try.prog.underlying 42 = some (.int .i64) := by kernel_rfl
theorem u53 : Try.prog.underlying 53 = some (.int .i64) := by kernel_rfl
theorem u54 : Try.prog.underlying 54 = some (.int .i64) := by kernel_rfl
theorem u60 : Try.prog.underlying 60 = some (.int .i64) := by kernel_rfl
theorem u43 : Try.prog.underlying 43 = some (.int .u32) := by kernel_rfl
theorem u5 : Try.prog.underlying 5 = some (.int .u8) := by kernel_rfl
theorem u44 : Try.prog.underlying 44 = some (.slice 5) := by kernel_rfl
theorem u55 : Try.prog.underlying 55 = some (.slice 2) := by kernel_rfl
theorem u30 : Try.prog.underlying 30 = some (.slice 57) := by kernel_rfl
theorem u22 : Try.prog.underlying 22 = some (.slice 64) := by kernel_rfl
theorem l5 : leaves Try.prog Try.prog.depth 5 = some [5] := by kernel_rfl
theorem l2 : leaves Try.prog Try.prog.depth 2 = some [2] := by kernel_rfl
theorem l22 : leaves Try.prog Try.prog.depth 22 = some [22] := by kernel_rfl
theorem a64 : agP Try.prog 64 = some true := by kernel_rfl
theorem a57 : agP Try.prog 57 = some true := by kernel_rfl
theorem a22 : agP Try.prog 22 = some false := by kernel_rfl
theorem a5 : agP Try.prog 5 = some false := by kernel_rfl
theorem a2 : agP Try.prog 2 = some false := by kernel_rfl
theorem by5 : 1 ≤ Try.prog.bytesOf 5 := of_decide_eq_true (by kernel_rfl)
theorem by2 : 1 ≤ Try.prog.bytesOf 2 := of_decide_eq_true (by kernel_rfl)
theorem by57 : 1 ≤ Try.prog.bytesOf 57 := of_decide_eq_true (by kernel_rfl)
/-- what is known of a row's weight -/
def Bd (n : Nat) : Prop := n ≤ reachBytes
theorem bd0 : Bd 0 := Nat.zero_le _
theorem bdm : ∀ n m, n ≤ m → Bd m → Bd n := fun _ _ h h2 => Nat.le_trans h h2
theorem bd_len {n b : Nat} (h : Bd (n * b)) (hb : 1 ≤ b) : n ≤ 140737488355328 := by
  have h1 : n * b ≤ reachBytes := h
  have h2 : n * 1 ≤ n * b := Nat.mul_le_mul_left _ hb
  have h3 : reachBytes ≤ 140737488355328 := of_decide_eq_true (by kernel_rfl)
  omega

theorem rc_of {x : V} (h : Rf.B.ASh Bd Try.prog 57 x) : ∃ r : Rc, x = rV r := by
  obtain ⟨l, h1, h2, h3, h4⟩ := h
  rw [l57] at h1; cases h1
  obtain ⟨cs, rfl⟩ := h3.1 a57
  have hc : cs.length = 6 := h2
  obtain ⟨x0, e0, -⟩ := (h4 0 2 rfl).int u2
  obtain ⟨x1, e1, -⟩ := (h4 1 3 rfl).int u3
  obtain ⟨x2, e2, -⟩ := (h4 2 2 rfl).int u2
  obtain ⟨x3, e3, -⟩ := (h4 3 3 rfl).int u3
  obtain ⟨x4, e4, -⟩ := (h4 4 3 rfl).int u3
  obtain ⟨x5, e5, -⟩ := (h4 5 2 rfl).int u2
  match cs, hc with
  | [c0, c1, c2, c3, c4, c5], _ =>
    have e0 : c0 = .i .i64 x0 := e0
    have e1 : c1 = .i .i64 x1 := e1
    have e2 : c2 = .i .i64 x2 := e2
    have e3 : c3 = .i .i64 x3 := e3
    have e4 : c4 = .i .i64 x4 := e4
    have e5 : c5 = .i .i64 x5 := e5
    subst e0 e1 e2 e3 e4 e5
    exact ⟨fun j => [x0, x1, x2, x3, x4, x5].getD j 0, rfl⟩
theorem rcs_of : ∀ (xs : List V), (∀ x ∈ xs, Rf.B.ASh Bd Try.prog 57 x) → ∃ l : List Rc, xs = l.map rV
  | [], _ => ⟨[], rfl⟩
  | x :: r, h => by
    obtain ⟨m, rfl⟩ := rc_of (h x (List.mem_cons_self ..))
    obtain ⟨ms, rfl⟩ := rcs_of r (fun y hy => h y (List.mem_cons_of_mem _ hy))
    exact ⟨m :: ms, rfl⟩
theorem ints_of : ∀ (xs : List V), (∀ x ∈ xs, Rf.B.ASh Bd Try.prog 2 x) → ∃ l : List Int, xs = l.map fun n => .i .i64 n
  | [], _ => ⟨[], rfl⟩
  | x :: r, h => by
    obtain ⟨m, hm, -⟩ := ((h x (List.mem_cons_self ..)).leaf l2 (by rw [a2]; decide)).int u2
    obtain ⟨ms, rfl⟩ := ints_of r (fun y hy => h y (List.mem_cons_of_mem _ hy))
    exact ⟨m :: ms, by rw [hm]; rfl⟩
theorem byte_of {n : Int} (h : (Lit.int .u8 n).wf = true) : ∃ b : UInt8, n = b.toNat := by
  have h2 : (decide (IntKind.u8.min ≤ n) && decide (n ≤ IntKind.u8.max)) = true := h
  rw [Bool.and_eq_true, decide_eq_true_eq, decide_eq_true_eq] at h2
  have h3 : (0 : Int) ≤ n := h2.1
  have h4 : n ≤ 255 := h2.2
  refine ⟨UInt8.ofNat n.toNat, ?_⟩
  simp [UInt8.toNat_ofNat']
  omega
theorem bytes_of : ∀ (xs : List V), (∀ x ∈ xs, Rf.B.ASh Bd Try.prog 5 x) → ∃ l : List UInt8, xs = bytesOf l
  | [], _ => ⟨[], rfl⟩
  | x :: r, h => by
    obtain ⟨m, hm, hw⟩ := ((h x (List.mem_cons_self ..)).leaf l5 (by rw [a5]; decide)).int u5
    obtain ⟨b, rfl⟩ := byte_of hw
    obtain ⟨ms, rfl⟩ := bytes_of r (fun y hy => h y (List.mem_cons_of_mem _ hy))
    exact ⟨b :: ms, by rw [hm]; rfl⟩

theorem ag_of (cs : List V) (h : cs.length = 47) : cs = (List.range 47).map (fun j => cs.getD j .bad) := by
  apply List.ext_getElem (by simp [h])
  intro i h1 h2
  simp [List.getD, h1]
theorem mt_of {x : V} (h : Rf.B.ASh Bd Try.prog 64 x) : ∃ m : Mt, x = m.v ∧ szM m ≤ 1125899906842624 := by
  obtain ⟨l, h1, h2, h3, h4⟩ := h
  rw [lv] at h1; cases h1
  obtain ⟨cs, rfl⟩ := h3.1 a64
  have hc : cs.length = 47 := h2
  obtain ⟨bs0, e5, -, b5, q5⟩ := (h4 5 44 rfl).slice u44 l5 (by decide)
  obtain ⟨vs0, e23, -, b23, q23⟩ := (h4 23 55 rfl).slice u55 l2 (by decide)
  obtain ⟨rl0, e44, -, b44, q44⟩ := (h4 44 30 rfl).slice u30 l57 (by decide)
  have b5 := bd_len b5 by5
  have b23 := bd_len b23 by2
  have b44 := bd_len b44 by57
  obtain ⟨bs, rfl⟩ := bytes_of bs0 q5
  obtain ⟨vs, rfl⟩ := ints_of vs0 q23
  obtain ⟨rl, rfl⟩ := rcs_of rl0 q44
  obtain ⟨x0, e0, -⟩ := (h4 0 41 rfl).int u41
  obtain ⟨x1, e1, -⟩ := (h4 1 3 rfl).int u3
  obtain ⟨x2, e2, -⟩ := (h4 2 42 rfl).int u42
  obtain ⟨x3, e3, -⟩ := (h4 3 43 rfl).int u43
  obtain ⟨x4, e4, -⟩ := (h4 4 3 rfl).int u3
  obtain ⟨x6, e6, -⟩ := (h4 6 2 rfl).int u2
  obtain ⟨x7, e7, -⟩ := (h4 7 3 rfl).int u3
  obtain ⟨x8, e8, -⟩ := (h4 8 2 rfl).int u2
  obtain ⟨x9, e9, -⟩ := (h4 9 3 rfl).int u3
  obtain ⟨x10, e10, -⟩ := (h4 10 3 rfl).int u3
  obtain ⟨x11, e11, -⟩ := (h4 11 2 rfl).int u2
  obtain ⟨x12, e12, -⟩ := (h4 12 43 rfl).int u43
  obtain ⟨x13, e13, -⟩ := (h4 13 3 rfl).int u3
  obtain ⟨x14, e14, -⟩ := (h4 14 3 rfl).int u3
  obtain ⟨x15, e15, -⟩ := (h4 15 2 rfl).int u2
  obtain ⟨x16, e16, -⟩ := (h4 16 3 rfl).int u3
  obtain ⟨x17, e17, -⟩ := (h4 17 2 rfl).int u2
  obtain ⟨x18, e18, -⟩ := (h4 18 2 rfl).int u2
  obtain ⟨x19, e19, -⟩ := (h4 19 53 rfl).int u53
  obtain ⟨x20, e20, -⟩ := (h4 20 43 rfl).int u43
  obtain ⟨x21, e21, -⟩ := (h4 21 54 rfl).int u54
  obtain ⟨x22, e22, -⟩ := (h4 22 2 rfl).int u2
  obtain ⟨x24, e24, -⟩ := (h4 24 2 rfl).int u2
  obtain ⟨x25, e25, -⟩ := (h4 25 3 rfl).int u3
  obtain ⟨x26, e26, -⟩ := (h4 26 2 rfl).int u2
  obtain ⟨x27, e27, -⟩ := (h4 27 3 rfl).int u3
  obtain ⟨x28, e28, -⟩ := (h4 28 3 rfl).int u3
  obtain ⟨x29, e29, -⟩ := (h4 29 2 rfl).int u2
  obtain ⟨x30, e30, -⟩ := (h4 30 43 rfl).int u43
  obtain ⟨x31, e31, -⟩ := (h4 31 2 rfl).int u2
  obtain ⟨x32, e32, -⟩ := (h4 32 3 rfl).int u3
  obtain ⟨x33, e33, -⟩ := (h4 33 2 rfl).int u2
  obtain ⟨x34, e34, -⟩ := (h4 34 3 rfl).int u3
  obtain ⟨x35, e35, -⟩ := (h4 35 3 rfl).int u3
  obtain ⟨x36, e36, -⟩ := (h4 36 2 rfl).int u2
  obtain ⟨x37, e37, -⟩ := (h4 37 60 rfl).int u60
  obtain ⟨x38, e38, -⟩ := (h4 38 2 rfl).int u2
  obtain ⟨x39, e39, -⟩ := (h4 39 3 rfl).int u3
  obtain ⟨x40, e40, -⟩ := (h4 40 2 rfl).int u2
  obtain ⟨x41, e41, -⟩ := (h4 41 3 rfl).int u3
  obtain ⟨x42, e42, -⟩ := (h4 42 3 rfl).int u3
  obtain ⟨x43, e43, -⟩ := (h4 43 2 rfl).int u2
  obtain ⟨x45, e45, -⟩ := (h4 45 43 rfl).int u43
  obtain ⟨x46, e46, -⟩ := (h4 46 2 rfl).int u2
  have e0 : cs.getD 0 .bad = .i .i64 x0 := e0
  have e1 : cs.getD 1 .bad = .i .i64 x1 := e1
  have e2 : cs.getD 2 .bad = .i .i64 x2 := e2
  have e3 : cs.getD 3 .bad = .i .u32 x3 := e3
  have e4 : cs.getD 4 .bad = .i .i64 x4 := e4
  have e5 : cs.getD 5 .bad = bsV bs := e5
  have e6 : cs.getD 6 .bad = .i .i64 x6 := e6
  have e7 : cs.getD 7 .bad = .i .i64 x7 := e7
  have e8 : cs.getD 8 .bad = .i .i64 x8 := e8
  have e9 : cs.getD 9 .bad = .i .i64 x9 := e9
  have e10 : cs.getD 10 .bad = .i .i64 x10 := e10
  have e11 : cs.getD 11 .bad = .i .i64 x11 := e11
  have e12 : cs.getD 12 .bad = .i .u32 x12 := e12
  have e13 : cs.getD 13 .bad = .i .i64 x13 := e13
  have e14 : cs.getD 14 .bad = .i .i64 x14 := e14
  have e15 : cs.getD 15 .bad = .i .i64 x15 := e15
  have e16 : cs.getD 16 .bad = .i .i64 x16 := e16
  have e17 : cs.getD 17 .bad = .i .i64 x17 := e17
  have e18 : cs.getD 18 .bad = .i .i64 x18 := e18
  have e19 : cs.getD 19 .bad = .i .i64 x19 := e19
  have e20 : cs.getD 20 .bad = .i .u32 x20 := e20
  have e21 : cs.getD 21 .bad = .i .i64 x21 := e21
  have e22 : cs.getD 22 .bad = .i .i64 x22 := e22
  have e23 : cs.getD 23 .bad = vsV vs := e23
  have e24 : cs.getD 24 .bad = .i .i64 x24 := e24
  have e25 : cs.getD 25 .bad = .i .i64 x25 := e25
  have e26 : cs.getD 26 .bad = .i .i64 x26 := e26
  have e27 : cs.getD 27 .bad = .i .i64 x27 := e27
  have e28 : cs.getD 28 .bad = .i .i64 x28 := e28
  have e29 : cs.getD 29 .bad = .i .i64 x29 := e29
  have e30 : cs.getD 30 .bad = .i .u32 x30 := e30
  have e31 : cs.getD 31 .bad = .i .i64 x31 := e31
  have e32 : cs.getD 32 .bad = .i .i64 x32 := e32
  have e33 : cs.getD 33 .bad = .i .i64 x33 := e33
  have e34 : cs.getD 34 .bad = .i .i64 x34 := e34
  have e35 : cs.getD 35 .bad = .i .i64 x35 := e35
  have e36 : cs.getD 36 .bad = .i .i64 x36 := e36
  have e37 : cs.getD 37 .bad = .i .i64 x37 := e37
  have e38 : cs.getD 38 .bad = .i .i64 x38 := e38
  have e39 : cs.getD 39 .bad = .i .i64 x39 := e39
  have e40 : cs.getD 40 .bad = .i .i64 x40 := e40
  have e41 : cs.getD 41 .bad = .i .i64 x41 := e41
  have e42 : cs.getD 42 .bad = .i .i64 x42 := e42
  have e43 : cs.getD 43 .bad = .i .i64 x43 := e43
  have e44 : cs.getD 44 .bad = rlV rl := e44
  have e45 : cs.getD 45 .bad = .i .u32 x45 := e45
  have e46 : cs.getD 46 .bad = .i .i64 x46 := e46
  have hg : cs = [cs.getD 0 .bad, cs.getD 1 .bad, cs.getD 2 .bad, cs.getD 3 .bad, cs.getD 4 .bad, cs.getD 5 .bad, cs.getD 6 .bad, cs.getD 7 .bad, cs.getD 8 .bad, cs.getD 9 .bad, cs.getD 10 .bad, cs.getD 11 .bad, cs.getD 12 .bad, cs.getD 13 .bad, cs.getD 14 .bad, cs.getD 15 .bad, cs.getD 16 .bad, cs.getD 17 .bad, cs.getD 18 .bad, cs.getD 19 .bad, cs.getD 20 .bad, cs.getD 21 .bad, cs.getD 22 .bad, cs.getD 23 .bad, cs.getD 24 .bad, cs.getD 25 .bad, cs.getD 26 .bad, cs.getD 27 .bad, cs.getD 28 .bad, cs.getD 29 .bad, cs.getD 30 .bad, cs.getD 31 .bad, cs.getD 32 .bad, cs.getD 33 .bad, cs.getD 34 .bad, cs.getD 35 .bad, cs.getD 36 .bad, cs.getD 37 .bad, cs.getD 38 .bad, cs.getD 39 .bad, cs.getD 40 .bad, cs.getD 41 .bad, cs.getD 42 .bad, cs.getD 43 .bad, cs.getD 44 .bad, cs.getD 45 .bad, cs.getD 46 .bad] := ag_of cs hc
  rw [e0, e1, e2, e3, e4, e5, e6, e7, e8, e9, e10, e11, e12, e13, e14, e15, e16, e17, e18, e19, e20, e21, e22, e23, e24, e25, e26, e27, e28, e29, e30, e31, e32, e33, e34, e35, e36, e37, e38, e39, e40, e41, e42, e43, e44, e45, e46] at hg
  refine ⟨⟨fun j => [x0, x1, x2, x3, x4, 0, x6, x7, x8, x9, x10, x11, x12, x13, x14, x15, x16, x17, x18, x19, x20, x21, x22, 0, x24, x25, x26, x27, x28, x29, x30, x31, x32, x33, x34, x35, x36, x37, x38, x39, x40, x41, x42, x43, 0, x45, x46].getD j 0, bs, vs, rl⟩, congrArg V.ag hg, ?_⟩
  show (bytesOf bs).length + (vs.map fun n => V.i .i64 n).length + (rl.map rV).length ≤ 1125899906842624
  omega
theorem mts_of : ∀ (xs : List V), (∀ x ∈ xs, Rf.B.ASh Bd Try.prog 64 x) → ∃ ms : List Mt, xs = ms.map Mt.v ∧ ∀ m ∈ ms, szM m ≤ 1125899906842624
  | [], _ => ⟨[], rfl, fun m hm => by simp at hm⟩
  | x :: r, h => by
    obtain ⟨m, rfl, h1⟩ := mt_of (h x (List.mem_cons_self ..))
    obtain ⟨ms, rfl, h2⟩ := mts_of r (fun y hy => h y (List.mem_cons_of_mem _ hy))
    exact ⟨m :: ms, rfl, fun k hk => by
      rcases List.mem_cons.1 hk with rfl | hk
      · exact h1
      · exact h2 k hk⟩

theorem commits_lifted (os : Os) (started : os.Started) (H : Type) (enc : TypeId × Value → H) :
    ReturnsInHanded {} Try.checked os 4 .any (Rows.traceCommitsSpec.pre6 enc Try.prog Try.f4 Rows.traceCommitsRow.domain false) (Rows.traceCommitsSpec.post enc Try.prog Try.f4 false true false false) := by
  refine returnsInHanded_of_calls (C := Try.checked) own started (by kernel_rfl)
    (ChangeSpec.witness6 (enc := enc) (C := Try.checked) false ⟨#[], #[.slice none 0 0], []⟩ 8 (by kernel_rfl) (by kernel_rfl) (by kernel_rfl) (by kernel_rfl)) ?_
  intro w tape i _ _ _ hok hpre hholds
  obtain ⟨_, _, _, fn', hfn', _, _, _, _, hval0⟩ := hok
  obtain rfl : Try.f4 = fn' := Option.some.inj (Try.func4.symm.trans hfn')
  obtain ⟨⟨ds, gs, before, hw, hc⟩, hz⟩ := hpre
  have hsz := hz.weights hw
  have hW : DataW.Whole enc Try.prog Try.f4.params.toList Rows.traceCommitsSpec.vars false (w.forCall tape i) i.args.toList ds gs before := DataW.Whole.of_heap (w' := w.forCall tape i) (by rfl) hw
  have fin : Calls Try.prog 4 i.args (w.forCall tape i) fun e W' => ∃ v, e = .returned v ∧ Rows.traceCommitsSpec.post enc Try.prog Try.f4 false true false false (w.forCall tape i) i.args v W' := by
    have hval : ∀ (j : Nat) t v, Try.f4.params[j]? = some t → i.args[j]? = some v → Value.okWide Try.prog (w.forCall tape i) .any w.heap.size t v := hval0
    generalize w.forCall tape i = W at hW hval ⊢
    generalize i.args = args at hW hval ⊢
    have hW' := hW
    obtain ⟨p, q, hA0, hV, rfl, hfz, hnd⟩ := hW
    have hA : DataW.TrodAll enc Try.prog W 0 (fun _ => true) true Try.f4.params.toList args.toList ds p := hA0
    obtain ⟨d0, rfl⟩ : ∃ d0, ds = [d0] := by
      have hA1 := hA
      rw [Try.params4] at hA1
      obtain ⟨v, as1, d, ds1, a, b, h1, h2, h3, h4, h5⟩ := trodAll_cons hA1
      obtain ⟨-, rfl, -⟩ := trodAll_nil h5
      exact ⟨d, h2⟩
    have hwt : ∀ w ∈ DataW.weightsEach Try.prog [22] [d0], Bd w := fun n hn => by
      have h1 := List.all_eq_true.1 hsz n (by
        rw [Try.params4]
        simp only [DataW.weightsEach, List.cons_append, List.nil_append, List.mem_append] at hn ⊢
        rcases hn with hn | hn
        · exact .inl hn
        · simp at hn)
      have h2 : decide (n ≤ reachBytes) = true := h1
      exact (of_decide_eq_true h2 : n ≤ reachBytes)
    rw [Try.params4] at hA hval
    obtain ⟨us, ha, hlen, hsh⟩ := Rf.B.args_of (B := Bd) (ts := [22]) bd0 bdm (fun j t v h1 h2 => hval j t v (by simpa using h1) (by simpa using h2)) hA (by kernel_rfl) hwt
    match us, hlen with
    | [x], _ =>
      obtain ⟨xs, hx, hxl, -, hxa⟩ := ((hsh 0 22 rfl).leaf l22 (by rw [a22]; decide)).slice u22 lv (by decide)
      obtain ⟨ms, rfl, hms⟩ := mts_of xs hxa
      have hx : x = msV ms := hx
      subst hx
      have ha' : ARep (cx0 W) W.heap s0.L [msV ms] args := by simpa using ha
      exact law_post (by kernel_rfl) (by kernel_rfl) (by kernel_rfl) Try.underlying4 rfl (fun gs => by cases gs <;> rfl) hW' (fun g v h => by cases h) ha'
        (law_den ms (by simpa using hxl) hms s0)
  refine fin.mono fun e W' ⟨v, he, hp⟩ => ?_
  subst he
  exact ChangeSpec.post_blind hp

theorem commits_holds : Rows.TraceCommitsSaid :=
  OpenClaim.holds_of_wide 4 Try.f4 rfl rfl rfl rfl rfl rfl rfl ⟨rfl, rfl, rfl, rfl, rfl⟩ rfl rfl rfl rfl rfl (by kernel_rfl) Try.func4 (by kernel_rfl)
    (of_decide_eq_true (by kernel_rfl)) (by unfold Func.isWrapper; first | (rw [if_pos (by decide +kernel)]; kernel_rfl) | (rw [if_neg (by decide +kernel)]; exact ⟨rfl, rfl⟩))
    (fun os started H enc _ => commits_lifted os started H enc)
#print axioms commits_holds
end Go.Proofs.Ytlcpcgcegpfklaa
