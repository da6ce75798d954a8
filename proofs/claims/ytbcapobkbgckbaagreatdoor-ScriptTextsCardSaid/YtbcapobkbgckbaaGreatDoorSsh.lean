/-
  The library's functions at this program, in this layer's words. No statement stands here.
-/
import Derived.Test.YtbcapobkbgckbaaGreatDoorShelf
import Derived.Test.YtbcapobkbgckbaaGreatDoorCodB
import Derived.Test.YtbcapobkbgckbaaGreatDoorWc
import Derived.Test.YtbcapobkbgckbaaGreatDoorLF
set_option linter.all false
namespace Go.Proofs.YtbcapobkbgckbaaGreatDoor
open Go Rf
set_option maxRecDepth 100000
set_option maxHeartbeats 4000000

def dbT : List Int := [0, 1, 56, 2, 57, 49, 28, 3, 61, 58, 42, 50, 38, 29, 17, 4, 62, 47, 59, 36, 45, 43, 51, 22, 53, 39, 33, 30, 24, 18, 12, 5, 63, 55, 48, 27, 60, 41, 37, 16, 46, 35, 44, 21, 52, 32, 23, 11, 54, 26, 40, 15, 34, 20, 31, 10, 25, 14, 19, 9, 13, 8, 7, 6]
def gt1 : Nat → Option V := gtL [(1, tabV .u64 Lib.pow10Tab), (2, .ifc 329 .bad), (3, .ifc 329 .bad), (8, tabV .u8 dbT)]
theorem tab_nm {L : Nat → Prop} (k : Go.IntKind) (zs : List Int) : Nm L (tabV k zs) := .ag _ fun x hx => by
  obtain ⟨z, -, rfl⟩ := List.mem_map.1 hx; exact .i _ _
theorem gnm1 : GNm gt1 := fun g v h => by
  unfold gt1 gtL at h
  split at h
  · cases h; exact tab_nm _ _
  · unfold gtL at h
    split at h
    · cases h; exact .ifc _ _ .bad
    · unfold gtL at h
      split at h
      · cases h; exact .ifc _ _ .bad
      · unfold gtL at h
        split at h
        · cases h; exact tab_nm _ _
        · cases h
theorem up0 {P : Program} {gt : Nat → Option V} {f : FuncId} {args : List V} {s s' : St} {v : V} (h : Den gt0 P f args s v s') : Den gt P f args s v s' :=
  fun cx w xs R _ A => h cx w xs R (fun _ _ h => by cases h) A
theorem lays138_221 : Lays.n138 Tryz.prog Tryz.lays221_ren := { Tryz.lays221 with }
theorem lays143_221 : Lays.n143 Tryz.prog Tryz.lays221_ren := { Tryz.lays221 with }
/-! numbers -/
theorem itoa_d {n : Int} (h0 : -9223372036854775808 ≤ n) (h1 : n ≤ 9223372036854775807) : PDen gt1 Tryz.prog 45 [.i .i64 n] (.s (Lib.itoa n)) :=
  itoa_pden Tryz.laysM171 (g := 1) rfl Tryz.laysM171.m17 h0 h1
theorem fmt_d {n : Int} (h0 : -9223372036854775808 ≤ n) (h1 : n ≤ 9223372036854775807) : PDen gt1 Tryz.prog 46 [.i .i64 n, .i .i64 10] (.s (Lib.itoa n)) :=
  formatInt_pden Tryz.laysM173 (g := 1) rfl Tryz.laysM173.m17 h0 h1
theorem parse_d {l : List UInt8} (hl : l.length ≤ 281474976710656) : PDen gt1 Tryz.prog 51 [.s l, .i .i64 10, .i .i64 64] (.tu [.i .i64 (parseV l), .bad]) :=
  parseInt_pden Tryz.laysC174 (t15 := 329) (t16 := 329) rfl rfl hl
theorem atoi_d {l : List UInt8} (hl : l.length ≤ 281474976710656) : PDen gt1 Tryz.prog 50 [.s l] (.tu [.i .i64 (atoiV l), .bad]) :=
  atoi_pden Tryz.laysC172 (t15 := 329) (t16 := 329) rfl rfl hl
theorem gsplit_d {l : List UInt8} {c : UInt8} {sv : Nat} (hsv : sv ≤ 1) (hl : l.length < 4294967281) : PDen gt1 Tryz.prog 75 [.s l, .s [c], .i .i64 (sv : Nat), .i .i64 (-1)] (.pu 1 ((pieces l c sv).map .s) (.x (pieces l c sv).length)) :=
  genSplit_pdenx Tryz.lays221 lays138_221 lays143_221 (by kernel_rfl) hsv hl
theorem six_d {l : List UInt8} {c : UInt8} : PDen gt1 Tryz.prog 74 [.s l, .s [c]] (.i .i64 (Lib.indexByte l c)) := sindex1_pden (L := ({ Tryz.lays221 with } : Lays.n219 Tryz.prog Tryz.lays221_ren))
theorem arr5 {a b c d e : Value} {xs : Array Value} (h : xs.size = 5) (h0 : xs[0]? = some a) (h1 : xs[1]? = some b) (h2 : xs[2]? = some c) (h3 : xs[3]? = some d) (h4 : xs[4]? = some e) : xs = #[a, b, c, d, e] := by
  apply Array.ext_getElem?; intro i
  match i with
  | 0 => simpa using h0
  | 1 => simpa using h1
  | 2 => simpa using h2
  | 3 => simpa using h3
  | 4 => simpa using h4
  | i + 5 => rw [Array.getElem?_eq_none (by omega), Array.getElem?_eq_none (by simp)]
theorem toErr_d {l p : List UInt8} {a b : Int} (hl : l.length ≤ 281474976710656) : PDen gt1 Tryz.prog 77 [.s p, .s l, .i .i64 a, .i .i64 b, .ifc 187 (.i .i64 2)] .bad := PDen.below fun cx w m xs G A => by
  obtain ⟨z, h3, h4⟩ := arep A (j := 4) rfl
  cases h4; rename_i h4; cases h4
  rw [arr5 A.len (arep_s A rfl) (arep_s A rfl) (arep_i A rfl) (arep_i A rfl) h3]
  have hsz : (⟨l.toArray⟩ : ByteArray).size = l.length := by simp [ByteArray.size]
  obtain ⟨pe, hc⟩ := (G 2 (.ifc 329 .bad) rfl).ifc
  refine (AnyPu.strconv_toError_syntax Tryz.laysPu17 ⟨p.toArray⟩ ⟨l.toArray⟩ a b _ w (by omega) hc (.inr ⟨_, _, rfl⟩)).mono fun e w' ⟨N, h1, _, _, h2⟩ => ⟨_, fun _ _ => False, h1, h2, fun _ _ h => h.elim, fun _ _ _ => .bad _⟩
/-! hexadecimal digits -/
noncomputable def tb1 : Nat → Option F := fun f => if callOk Tryz.prog f then cF gt1 Tryz.prog (wfB f) f else none
theorem tb1_ok : TbOk gt1 Tryz.prog wfB tb1 := by
  refine ⟨fun f F h => ?_, fun f F h => ?_⟩
  · unfold tb1 at h; split at h
    · exact h
    · cases h
  · unfold tb1 at h; split at h
    · assumption
    · cases h
theorem den_of1 {f : Nat} {args : List V} {s : St} {v : V} {n d : Nat} (h : (evFT tb1 n d f args s).map (·.1) = some v) : ∃ s', Den gt1 Tryz.prog f args s v s' := by
  simp only [Option.map_eq_some_iff] at h
  obtain ⟨⟨v', s'⟩, h1, h2⟩ := h
  simp only at h2
  subst h2
  exact ⟨s', (evFT_ok mixed tb1_ok n d _ _ _ _ _ h1).2⟩
theorem hx_of {n : Int} {l : List UInt8} (h : (evFT tb1 400 400 46 [.i .i64 n, .i .i64 16] s0).map (·.1) = some (.s l)) : PDen gt1 Tryz.prog 46 [.i .i64 n, .i .i64 16] (.s l) := by
  obtain ⟨s', h⟩ := den_of1 h
  exact fun s => h.pure gnm1 (nm2 (.i _ _) (.i _ _)) (.s _) s
theorem fmt16 (n : Nat) (h : n < 16) : PDen gt1 Tryz.prog 46 [.i .i64 (n : Nat), .i .i64 16] (.s [hxD n]) := by
  match n, h with
  | 0, _ => exact hx_of (by kernel_rfl)
  | 1, _ => exact hx_of (by kernel_rfl)
  | 2, _ => exact hx_of (by kernel_rfl)
  | 3, _ => exact hx_of (by kernel_rfl)
  | 4, _ => exact hx_of (by kernel_rfl)
  | 5, _ => exact hx_of (by kernel_rfl)
  | 6, _ => exact hx_of (by kernel_rfl)
  | 7, _ => exact hx_of (by kernel_rfl)
  | 8, _ => exact hx_of (by kernel_rfl)
  | 9, _ => exact hx_of (by kernel_rfl)
  | 10, _ => exact hx_of (by kernel_rfl)
  | 11, _ => exact hx_of (by kernel_rfl)
  | 12, _ => exact hx_of (by kernel_rfl)
  | 13, _ => exact hx_of (by kernel_rfl)
  | 14, _ => exact hx_of (by kernel_rfl)
  | 15, _ => exact hx_of (by kernel_rfl)
  | n + 16, h => omega
end Go.Proofs.YtbcapobkbgckbaaGreatDoor
