/-
  No cell of these rows narrows 'for every input' (looked for: loops, veiled, ifaces, maps, wideKeys, modest, calm, conditions, laid).
  DERIVED. THE GIVEN ROWS OF THIS SEAT. 3 by the template 'for every input the law returns true; each argument reads behind the call as it read before'; 0 by the template 'total and deterministic' (their statements: YthoojnjcdllgdaaTotals.lean).
  GIVEN WITH THE SEED: the statements are not yours to turn. If you find one false, say at which input.
  Laid BY PROGRAM, IN A SANDBOX (cutbox-rows.mjs): the forced cells as the released guide's own fill.sh prints them over the translation 6d301ec6c35c8768… (all of the seat's roots in one cut). By AI agents, Wed Nov 11 2026. No macro, syntax, notation, axiom, sorry.
-/
import Derived.Test.YthoojnjcdllgdaaChecked
import GoSem.Claim
import GoSem.ClaimJoined
import GoSem.ClaimMapViews
import Derived.JoinedTies
import Derived.KernelRfl
namespace Go.Proofs.Ythoojnjcdllgdaa
/- THE CELL 'sum', in the pinned program and in every row, IS THE sha256 OF THE DUMP (.gsa) THAT YthoojnjcdllgdaaProg.lean LOADS. Nothing in Lean hashes anything: it is a label: what it is worth is what the hold of that sum in a sandbox is worth. -/
noncomputable def Try.pinned : Pinned := { name := "ythoojnjcdllgdaa", sum := "6d301ec6c35c876856a5a3889d2350c8d7cb67493d59830a839176b6159625d2", checked := Try.checked }
namespace Rows
def none {H : Type} : Left H := { results := [], args := [] }

/-- 'rifflelaw30.TallySpans': WHATEVER THE INPUT: true; the input reads as it did. -/
def tallySpansSpec : ChangeSpec := { name := "tallySpans", fn := fun _ => fun
  | [d1, d2] => { results := [.lit (.bool true)], args := [d1, d2] }
  | _ => none }
def tallySpansRow : OpenClaim := { program := "ythoojnjcdllgdaa", sum := "6d301ec6c35c876856a5a3889d2350c8d7cb67493d59830a839176b6159625d2", func := "riffle/rifflelaw30.TallySpans", spec := "tallySpans", unfollowed := true, recurses := true, plainKeys := false, apart := false }
def TallySpansSaid : Prop := tallySpansRow.holds Try.pinned (OpenSpec.ofChange tallySpansSpec)

/-- ITS FALSE NEIGHBOUR: 'it returns false'. Refute it at one input. -/
def tallySpansWrong : ChangeSpec := { name := "tallySpans", fn := fun _ => fun
  | [d1, d2] => { results := [.lit (.bool false)], args := [d1, d2] }
  | _ => none }
def TallySpansWrongFalsely : Prop := tallySpansRow.holds Try.pinned (OpenSpec.ofChange tallySpansWrong)

/-- 'rifflelaw30.TallyOf': WHATEVER THE INPUT: true; the input reads as it did. -/
def tallyOfSpec : ChangeSpec := { name := "tallyOf", fn := fun _ => fun
  | [d] => { results := [.lit (.bool true)], args := [d] }
  | _ => none }
def tallyOfRow : OpenClaim := { program := "ythoojnjcdllgdaa", sum := "6d301ec6c35c876856a5a3889d2350c8d7cb67493d59830a839176b6159625d2", func := "riffle/rifflelaw30.TallyOf", spec := "tallyOf", unfollowed := true, recurses := true, plainKeys := false, apart := false }
def TallyOfSaid : Prop := tallyOfRow.holds Try.pinned (OpenSpec.ofChange tallyOfSpec)

/-- ITS FALSE NEIGHBOUR: 'it returns false'. Refute it at one input. -/
def tallyOfWrong : ChangeSpec := { name := "tallyOf", fn := fun _ => fun
  | [d] => { results := [.lit (.bool false)], args := [d] }
  | _ => none }
def TallyOfWrongFalsely : Prop := tallyOfRow.holds Try.pinned (OpenSpec.ofChange tallyOfWrong)

/-- 'rifflelaw30.TallyWhole': WHATEVER THE INPUT: true; the input reads as it did. -/
def tallyWholeSpec : ChangeSpec := { name := "tallyWhole", fn := fun _ => fun
  | [d1, d2] => { results := [.lit (.bool true)], args := [d1, d2] }
  | _ => none }
def tallyWholeRow : OpenClaim := { program := "ythoojnjcdllgdaa", sum := "6d301ec6c35c876856a5a3889d2350c8d7cb67493d59830a839176b6159625d2", func := "riffle/rifflelaw30.TallyWhole", spec := "tallyWhole", unfollowed := true, recurses := true, plainKeys := false, apart := false }
def TallyWholeSaid : Prop := tallyWholeRow.holds Try.pinned (OpenSpec.ofChange tallyWholeSpec)

/-- ITS FALSE NEIGHBOUR: 'it returns false'. Refute it at one input. -/
def tallyWholeWrong : ChangeSpec := { name := "tallyWhole", fn := fun _ => fun
  | [d1, d2] => { results := [.lit (.bool false)], args := [d1, d2] }
  | _ => none }
def TallyWholeWrongFalsely : Prop := tallyWholeRow.holds Try.pinned (OpenSpec.ofChange tallyWholeWrong)

/- THE SECOND FORM. 'bulk': how many values and letters a reading holds, each counted each time it is reached (what is shared counts as often as it is met; a slice's spare places count too). A statement '..UptoSaid' is the law's where the arguments, and the package variables that the reading takes, are together of bulk at most 1048576: NARROWER than '..Said'. Prove '..Said' where nothing that the law and all that it calls make is longer than what came in: it says more and counts as full. Else prove '..UptoSaid'. A law counts once. -/
mutual
def uptoBulk {H : Type} : DataW H → Nat
  | .lit (.string bytes) => bytes.length + 1
  | .lit _ => 1
  | .nil => 1
  | .ptr d => uptoBulk d + 1
  | .slice elems spare => uptoBulkAll elems + uptoBulkAll spare + 1
  | .agg parts => uptoBulkAll parts + 1
  | .iface _ d => uptoBulk d + 1
  | .map entries => uptoBulkEntries entries + 1
  | .held _ => 1
def uptoBulkAll {H : Type} : List (DataW H) → Nat
  | [] => 0
  | d :: r => uptoBulk d + uptoBulkAll r
def uptoBulkEntries {H : Type} : List (Lit × DataW H) → Nat
  | [] => 0
  | x :: r => uptoBulkEntry x + uptoBulkEntries r
def uptoBulkEntry {H : Type} : Lit × DataW H → Nat
  | (.string bytes, d) => bytes.length + uptoBulk d + 1
  | (_, d) => uptoBulk d + 1
 end
def uptoSmall : (H : Type) → List (DataW H) → Bool := fun _ ds => decide (uptoBulkAll ds ≤ 1048576)
def OpenSpec.upto (s : _root_.Go.ChangeSpec) : _root_.Go.OpenSpec := { _root_.Go.OpenSpec.ofChange s with cond := some uptoSmall }

/-- 'rifflelaw30.TallySpans', WHERE WHAT IT READS IS OF BULK AT MOST 1048576: true; the input reads as it did. -/
def tallySpansUptoRow : OpenClaim := { program := "ythoojnjcdllgdaa", sum := "6d301ec6c35c876856a5a3889d2350c8d7cb67493d59830a839176b6159625d2", func := "riffle/rifflelaw30.TallySpans", spec := "tallySpans", unfollowed := true, recurses := true, plainKeys := false, apart := false, narrowed := true }
def TallySpansUptoSaid : Prop := tallySpansUptoRow.holds Try.pinned (OpenSpec.upto tallySpansSpec)

/-- 'rifflelaw30.TallyOf', WHERE WHAT IT READS IS OF BULK AT MOST 1048576: true; the input reads as it did. -/
def tallyOfUptoRow : OpenClaim := { program := "ythoojnjcdllgdaa", sum := "6d301ec6c35c876856a5a3889d2350c8d7cb67493d59830a839176b6159625d2", func := "riffle/rifflelaw30.TallyOf", spec := "tallyOf", unfollowed := true, recurses := true, plainKeys := false, apart := false, narrowed := true }
def TallyOfUptoSaid : Prop := tallyOfUptoRow.holds Try.pinned (OpenSpec.upto tallyOfSpec)

/-- 'rifflelaw30.TallyWhole', WHERE WHAT IT READS IS OF BULK AT MOST 1048576: true; the input reads as it did. -/
def tallyWholeUptoRow : OpenClaim := { program := "ythoojnjcdllgdaa", sum := "6d301ec6c35c876856a5a3889d2350c8d7cb67493d59830a839176b6159625d2", func := "riffle/rifflelaw30.TallyWhole", spec := "tallyWhole", unfollowed := true, recurses := true, plainKeys := false, apart := false, narrowed := true }
def TallyWholeUptoSaid : Prop := tallyWholeUptoRow.holds Try.pinned (OpenSpec.upto tallyWholeSpec)

end Rows
end Go.Proofs.Ythoojnjcdllgdaa
