/-
  Contracts: which programs, events, numbers and models are the same. No statement stands here.
-/
import Derived.Test.YtlhopiehnaabgaaDoorLE
import Derived.Test.YtlhopiehnaabgaaDoorCode
set_option linter.all false
namespace Go.Proofs.YtlhopiehnaabgaaDoor
open Go Rf
set_option maxRecDepth 100000
set_option maxHeartbeats 1000000

theorem wrap_succ {i n : Nat} (h : i < n) (hn : n ≤ maxLen) : wrapF .i64 ((i : Int) + 1) = ((i + 1 : Nat) : Int) := by
  have hm : maxLen ≤ 9223372036854775807 := by decide
  rw [wrapF_eq, wrap_in] <;> simp [lim, IntKind.signed] <;> omega

def insV (x : Int × Int) : V := .ag [.i .i64 x.1, .i .i64 x.2]
abbrev Kd := List (Int × Int)
def kV (k : Kd) : V := .pu 2 (k.map insV) .u
def ksV (ks : List Kd) : V := .pu 1 (ks.map kV) .u
def pgV (v : Int) (ks : List Kd) : V := .ag [.i .i64 v, ksV ks]
theorem insV_nm {L : Nat → Prop} (x : Int × Int) : Nm L (insV x) := .ag _ (fun v hv => by
  simp only [List.mem_cons, List.not_mem_nil, or_false] at hv
  rcases hv with rfl | rfl <;> exact .i _ _)
theorem kV_nm {L : Nat → Prop} (k : Kd) : Nm L (kV k) := .pu _ _ _ (fun v hv => by
  obtain ⟨x, -, rfl⟩ := List.mem_map.1 hv; exact insV_nm x) (fun k hk => by cases hk)
theorem ksV_nm {L : Nat → Prop} (ks : List Kd) : Nm L (ksV ks) := .pu _ _ _ (fun v hv => by
  obtain ⟨x, -, rfl⟩ := List.mem_map.1 hv; exact kV_nm x) (fun k hk => by cases hk)
theorem pgV_nm {L : Nat → Prop} (v : Int) (ks : List Kd) : Nm L (pgV v ks) := .ag _ (fun x hx => by
  simp only [List.mem_cons, List.not_mem_nil, or_false] at hx
  rcases hx with rfl | rfl
  · exact .i _ _
  · exact ksV_nm _)
theorem nm2 {L : Nat → Prop} {a b : V} (ha : Nm L a) (hb : Nm L b) : ∀ x ∈ [a, b], Nm L x := fun x hx => by
  simp only [List.mem_cons, List.not_mem_nil, or_false] at hx
  rcases hx with rfl | rfl
  · exact ha
  · exact hb
def iV (n : Int) : V := .i .i64 n
abbrev Ev := Int × Int × Int × Int × Int × Int
def evV (e : Ev) : V := .ag [.i .i64 e.1, .i .i64 e.2.1, .i .i64 e.2.2.1, .i .i64 e.2.2.2.1, .i .i64 e.2.2.2.2.1, .i .i64 e.2.2.2.2.2]
def vsV (l : List Int) : V := .pu 1 (l.map iV) .u
def fsV (l : List Ev) : V := .pu 6 (l.map evV) .u
abbrev Pr := (Int × List Kd) × List Int × Int
def prV (p : Pr) : V := .ag [.i .i64 p.1.1, ksV p.1.2, vsV p.2.1, .i .i64 p.2.2]
def psV (l : List Pr) : V := .pu 4 (l.map prV) .u
def mV (ps : List Pr) (fs : List Ev) : V := .ag [psV ps, fsV fs]
theorem iV_nm {L : Nat → Prop} (x : Int) : Nm L (iV x) := .i _ _
theorem evV_nm {L : Nat → Prop} (x : Ev) : Nm L (evV x) := .ag _ (fun v hv => by
  simp only [List.mem_cons, List.not_mem_nil, or_false] at hv
  rcases hv with rfl | rfl | rfl | rfl | rfl | rfl <;> exact .i _ _)
theorem vsV_nm {L : Nat → Prop} (k : List Int) : Nm L (vsV k) := .pu _ _ _ (fun v hv => by
  obtain ⟨x, -, rfl⟩ := List.mem_map.1 hv; exact iV_nm x) (fun k hk => by cases hk)
theorem fsV_nm {L : Nat → Prop} (k : List Ev) : Nm L (fsV k) := .pu _ _ _ (fun v hv => by
  obtain ⟨x, -, rfl⟩ := List.mem_map.1 hv; exact evV_nm x) (fun k hk => by cases hk)
theorem prV_nm {L : Nat → Prop} (p : Pr) : Nm L (prV p) := .ag _ (fun v hv => by
  simp only [List.mem_cons, List.not_mem_nil, or_false] at hv
  rcases hv with rfl | rfl | rfl | rfl
  · exact .i _ _
  · exact ksV_nm _
  · exact vsV_nm _
  · exact .i _ _)
theorem psV_nm {L : Nat → Prop} (k : List Pr) : Nm L (psV k) := .pu _ _ _ (fun v hv => by
  obtain ⟨x, -, rfl⟩ := List.mem_map.1 hv; exact prV_nm x) (fun k hk => by cases hk)
theorem mV_nm {L : Nat → Prop} (ps : List Pr) (fs : List Ev) : Nm L (mV ps fs) := .ag _ (nm2 (psV_nm _) (fsV_nm _))
end Go.Proofs.YtlhopiehnaabgaaDoor
