/-
  Contracts: errors.Is of no error, of the reader's own. No statement stands here.
-/
import Derived.Test.YtbcapobkbgckbaaGreatDoorBase
import Derived.Test.YtbcapobkbgckbaaGreatDoorChecked
import Derived.Test.YtbcapobkbgckbaaGreatDoorLF
import Derived.WalkKit
import Derived.LaidEql
import Derived.Stop.Asserts
import Derived.RowKitTokens
set_option linter.all false
namespace Go.Proofs.YtbcapobkbgckbaaGreatDoor
set_option maxRecDepth 100000
open Go Go.RowKit Go.Extern.Stop Go.Stop Go.Extern

theorem call67 (v : Value) (w : World) : (callFunc 53 #[.iface 31 v]).run Tryz.prog w = .ok (.value (.iface 146 (.agg #[.pointer (some ⟨11, 31, none⟩)]))) w := by kernel_rfl
theorem call150 (w : World) : (callFunc 430 #[.agg #[.pointer (some ⟨11, 31, none⟩)]]).run Tryz.prog w = .ok (.value (.bool true)) w := by kernel_rfl
theorem isMethodComparable (v : Value) (w : World) : (Go.method 701 146 v "Comparable").run Tryz.prog w = .ok (430, v) w := by kernel_rfl
theorem eql28 (w : World) : (binOp .eql 52 (.iface 31 (.int .i64 14)) (.iface 31 (.int .i64 14))).run Tryz.prog w = .ok (.bool true) w := by kernel_rfl
theorem eql119 (v : Value) (w : World) : (binOp .eql 52 (.iface 92 v) (.iface 31 (.int .i64 14))).run Tryz.prog w = .ok (.bool false) w :=
  run_eql_iface_types (P := Tryz.prog) 92 31 v (.int .i64 14) Tryz.underlying52 (by decide) w
theorem noIsB (v : Value) (xT : TypeId) (w : World) : (Instr.typeAssert (.iface 92 v) xT 148 true).run Tryz.prog w = .ok (.tuple #[.nilIface, .bool false]) w := run_typeAssert_lacksB Tryz.underlying148 (by kernel_rfl) (by kernel_rfl) v xT w
theorem hasUnwrapB (v : Value) (xT : TypeId) (w : World) : (Instr.typeAssert (.iface 92 v) xT 151 true).run Tryz.prog w = .ok (.tuple #[.iface 92 v, .bool true]) w := run_typeAssert_hasB Tryz.underlying151 (by kernel_rfl) v xT w
theorem methodUnwrap (v : Value) (w : World) : (Go.method 701 92 v "Unwrap").run Tryz.prog w = .ok (427, v) w := by kernel_rfl

theorem is_nil (n : Int) (w : World) :
    Calls Tryz.prog 23 #[.nilIface, .iface 31 (.int .i64 n)] w fun e w' => e = .returned (.bool false) ∧ w' = w := by
  have hn := run_eql_iface_nil_left (P := Tryz.prog) w 31 (.int .i64 n) Tryz.underlying52
  go_enter Tryz.func23, Tryz.ntmps23
  go_wp2
  go_ret
  exact ⟨rfl, rfl⟩

theorem is_broken (k : ByteArray) (w : World) :
    Calls Tryz.prog 23 #[.iface 92 (.agg #[.string k]), .iface 31 (.int .i64 14)] w fun e w' => e = .returned (.bool true) ∧ Below w.heap.size w w' := by
  have h67 := call67
  have h150 := call150
  have mR := isMethodComparable
  have nI := noIsB
  have uB := hasUnwrapB
  have mU := methodUnwrap
  have e1 := eql28
  have e2 := eql119
  go_enter Tryz.func23, Tryz.ntmps23
  go_wp2
  refine wp_loop_rounds 2 ?_
  rw [rounds_succ]
  go_wp2
  rw [rounds_succ]
  go_wp2
  go_ret
  exact ⟨rfl, (Below.refl _ w).alloc (Nat.le_refl _) _⟩
open Rf
theorem is_nil_den (n : Int) : PDen gt0 Tryz.prog 23 [.ni, .ifc 31 (.i .i64 n)] (.b false) :=
  PDen.belowv (fun cx w m xs G A => by
    obtain ⟨y, h1, h2⟩ := arep A (j := 0) rfl
    obtain ⟨z, h3, h4⟩ := arep A (j := 1) rfl
    cases h2; cases h4; rename_i h4; cases h4
    rw [arr2 A.len h1 h3]
    exact (is_nil n w).mono fun e w' ⟨h5, h6⟩ => ⟨h5, h6 ▸ .refl _ _⟩) (fun _ _ _ => .b _)
theorem is_broken_den (k : List UInt8) : PDen gt0 Tryz.prog 23 [.ifc 92 (.ag [.s k]), .ifc 31 (.i .i64 14)] (.b true) :=
  PDen.belowv (fun cx w m xs G A => by
    obtain ⟨y, h1, h2⟩ := arep A (j := 0) rfl
    obtain ⟨z, h3, h4⟩ := arep A (j := 1) rfl
    cases h4; rename_i h4; cases h4
    cases h2; rename_i h2
    cases h2 with
    | ag _ vs hs _ hv =>
      have h5 : vs = #[Value.string ⟨k.toArray⟩] := by
        have h6 := hv 0 (by simp)
        have hs : vs.size = 1 := hs
        have h7 : vs[0]? = some (Value.string ⟨k.toArray⟩) := by
          rw [show vs.getD 0 undef = vs[0] by simp [Array.getD_eq_getD_getElem?, hs]] at h6
          rw [Array.getElem?_eq_getElem (by omega)]
          generalize vs[0] = q at h6
          have h6 : VRep cx w.heap m (.s k) q := h6
          cases h6; rfl
        exact arr1 hs h7
      subst h5
      rw [arr2 A.len h1 h3]
      exact is_broken ⟨k.toArray⟩ w) (fun _ _ _ => .b _)
end Go.Proofs.YtbcapobkbgckbaaGreatDoor
