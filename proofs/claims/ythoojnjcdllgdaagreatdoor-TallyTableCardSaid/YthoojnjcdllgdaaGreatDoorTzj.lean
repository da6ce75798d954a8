/-
  The table's loops (the document). No statement stands here.
-/
import Derived.Test.YthoojnjcdllgdaaGreatDoorTzi
set_option linter.all false
namespace Go.Proofs.YthoojnjcdllgdaaGreatDoor
open Go Rf TallyP
set_option maxRecDepth 100000
set_option maxHeartbeats 4000000

def ER7 (mv sp av : V) : List V := (mv :: .bad :: .bad :: .bad :: .bad :: .bad :: sp :: .bad :: .bad :: .bad :: .bad :: .bad :: .bad :: av :: List.replicate 213 .bad)
def ERP (mv sp av : V) (l : List RwP) (i : Nat) : List V := (mv :: .bad :: .bad :: .bad :: .bad :: .bad :: sp :: .bad :: .bad :: .bad :: .bad :: .bad :: .bad :: av :: .pu 5 (l.map fun x => .ag (csP x)) .u :: .i .i64 (i : Nat) :: List.replicate 211 .bad)
theorem rlP {s z : St} {Q : XM → List V → St → Prop} (ms : List Mv) (sp av : V) (tk : Option Nat) (xs : List (List UInt8)) (l : List RwP) (hl : l.length ≤ 100000) (hxs : xs.length ≤ 600000) (hok : ∀ x ∈ l, i64 x.1 ∧ (i64 x.2.1 ∧ i64 x.2.2.1 ∧ i64 x.2.2.2.1 ∧ i64 x.2.2.2.2)) (K : Kn s z [.ac 1 av (xs.map V.s) tk])
    (hQ : ∀ e z' av' tk', fg [0, 6, 13] e = ER7 (.pu 47 (ms.map Mv.v) .u) sp av' → Kn s z' [.ac 1 av' ((xs ++ l.map lnP).map V.s) tk'] → Q .nrm e z') :
    HM gt1 Tryz.prog s (sA (nB 10 f7.body)) ((.pu 47 (ms.map Mv.v) .u) :: .bad :: .bad :: .bad :: .bad :: .bad :: sp :: .bad :: .bad :: .bad :: .bad :: .bad :: .bad :: av :: .pu 5 (l.map fun x => .ag (csP x)) .u :: List.replicate 212 .bad) z Q := by
  have hll : (l.map fun x => V.ag (csP x)).length = l.length := List.length_map ..
  refine kgo ?_; (repeat (first | intro (X:Nat) | intro (z:St) | intro (av:V) | intro (tk:Option Nat) | (intro (K1:Kn _ _ _); (try clear K); rename Kn _ _ _ => K))); conv => whnf
  refine HM.loop gnm1 fun hg => ⟨fun n e z' => ∃ (i : Nat) (av' : V) (tk' : Option Nat), i ≤ l.length ∧ n = l.length - i ∧ e = ERP (.pu 47 (ms.map Mv.v) .u) sp av' l i ∧ Kn s z' [.ac 1 av' ((xs ++ (l.take i).map lnP).map V.s) tk'],
    ⟨l.length, fg [0, 6, 13, 14, 15] _, _, WkM.fg hg, 0, av, tk, Nat.zero_le _, rfl, rfl, K.cast (by rw [List.take_zero, List.map_nil, List.append_nil])⟩, ?_⟩
  clear K
  rintro n e z1 ⟨i, av', tk', hi, rfl, rfl, K⟩
  conv => whnf
  refine kgo ?_; (repeat (first | intro (X:Nat) | intro (z:St) | intro (av:V) | intro (tk:Option Nat) | (intro (K1:Kn _ _ _); (try clear K); rename Kn _ _ _ => K))); conv => whnf
  rw [hll]
  refine brL ⟨fun hlt => ?_, fun hge => ?_⟩ <;> conv => whnf
  · have hx : l[i]? = some l[i] := List.getElem?_eq_getElem hlt
    have hxo := hok _ (List.getElem_mem hlt)
    generalize l[i] = x at hx hxo
    have hmi : (l.map fun x => V.ag (csP x))[((i : Nat) : Int).toNat]? = some (.ag (csP x)) := by simp [hx]
    have hal : ((xs ++ (l.take i).map lnP).map V.s).length ≤ 700000 := by simp; omega
    refine kgo ?_; (repeat (first | intro (X:Nat) | intro (z:St) | intro (av:V) | intro (tk:Option Nat) | (intro (K1:Kn _ _ _); (try clear K); rename Kn _ _ _ => K))); conv => whnf
    refine kdbsl5 ?_
    conv => whnf
    refine kgo ?_; (repeat (first | intro (X:Nat) | intro (z:St) | intro (av:V) | intro (tk:Option Nat) | (intro (K1:Kn _ _ _); (try clear K); rename Kn _ _ _ => K))); conv => whnf
    refine ⟨_, _, words19_den (.x 5) [112, 114, 111, 99] (nuP x) (by decide) (by simp [nuP]) (nuP_ok hxo) _ K.x, ?_⟩
    conv => whnf
    refine kgo ?_; (repeat (first | intro (X:Nat) | intro (z:St) | intro (av:V) | intro (tk:Option Nat) | (intro (K1:Kn _ _ _); (try clear K); rename Kn _ _ _ => K))); conv => whnf
    intro hg'
    exact ⟨l.length - (i + 1), fg [0, 6, 13, 14, 15] _, _, by omega, WkM.fg hg', i + 1, av, tk, hlt, rfl, rfl, K.cast (by rw [List.take_add_one, hx]; simp [lnP])⟩
  · rw [List.take_of_length_le hge] at K
    refine kgo ?_; (repeat (first | intro (X:Nat) | intro (z:St) | intro (av:V) | intro (tk:Option Nat) | (intro (K1:Kn _ _ _); (try clear K); rename Kn _ _ _ => K))); conv => whnf
    exact hQ _ _ _ _ rfl K
def ERK (mv sp av : V) (l : List RwK) (i : Nat) : List V := (mv :: .bad :: .bad :: .bad :: .bad :: .bad :: sp :: .bad :: .bad :: .bad :: .bad :: .bad :: .bad :: av :: .bad :: .bad :: .pu 4 (l.map fun x => .ag (csK x)) .u :: .i .i64 (i : Nat) :: List.replicate 209 .bad)
theorem rlK {s z : St} {Q : XM → List V → St → Prop} (ms : List Mv) (sp av : V) (tk : Option Nat) (xs : List (List UInt8)) (l : List RwK) (hl : l.length ≤ 100000) (hxs : xs.length ≤ 600000) (hok : ∀ x ∈ l, (i64 x.1.1 ∧ i64 x.1.2) ∧ (i64 x.2.1 ∧ i64 x.2.2)) (K : Kn s z [.ac 1 av (xs.map V.s) tk])
    (hQ : ∀ e z' av' tk', fg [0, 6, 13] e = ER7 (.pu 47 (ms.map Mv.v) .u) sp av' → Kn s z' [.ac 1 av' ((xs ++ l.map lnK).map V.s) tk'] → Q .nrm e z') :
    HM gt1 Tryz.prog s (sA (nB 12 f7.body)) ((.pu 47 (ms.map Mv.v) .u) :: .bad :: .bad :: .bad :: .bad :: .bad :: sp :: .bad :: .bad :: .bad :: .bad :: .bad :: .bad :: av :: .bad :: .bad :: .pu 4 (l.map fun x => .ag (csK x)) .u :: List.replicate 210 .bad) z Q := by
  have hll : (l.map fun x => V.ag (csK x)).length = l.length := List.length_map ..
  refine kgo ?_; (repeat (first | intro (X:Nat) | intro (z:St) | intro (av:V) | intro (tk:Option Nat) | (intro (K1:Kn _ _ _); (try clear K); rename Kn _ _ _ => K))); conv => whnf
  refine HM.loop gnm1 fun hg => ⟨fun n e z' => ∃ (i : Nat) (av' : V) (tk' : Option Nat), i ≤ l.length ∧ n = l.length - i ∧ e = ERK (.pu 47 (ms.map Mv.v) .u) sp av' l i ∧ Kn s z' [.ac 1 av' ((xs ++ (l.take i).map lnK).map V.s) tk'],
    ⟨l.length, fg [0, 6, 13, 16, 17] _, _, WkM.fg hg, 0, av, tk, Nat.zero_le _, rfl, rfl, K.cast (by rw [List.take_zero, List.map_nil, List.append_nil])⟩, ?_⟩
  clear K
  rintro n e z1 ⟨i, av', tk', hi, rfl, rfl, K⟩
  conv => whnf
  refine kgo ?_; (repeat (first | intro (X:Nat) | intro (z:St) | intro (av:V) | intro (tk:Option Nat) | (intro (K1:Kn _ _ _); (try clear K); rename Kn _ _ _ => K))); conv => whnf
  rw [hll]
  refine brL ⟨fun hlt => ?_, fun hge => ?_⟩ <;> conv => whnf
  · have hx : l[i]? = some l[i] := List.getElem?_eq_getElem hlt
    have hxo := hok _ (List.getElem_mem hlt)
    generalize l[i] = x at hx hxo
    have hmi : (l.map fun x => V.ag (csK x))[((i : Nat) : Int).toNat]? = some (.ag (csK x)) := by simp [hx]
    have hal : ((xs ++ (l.take i).map lnK).map V.s).length ≤ 700000 := by simp; omega
    refine kgo ?_; (repeat (first | intro (X:Nat) | intro (z:St) | intro (av:V) | intro (tk:Option Nat) | (intro (K1:Kn _ _ _); (try clear K); rename Kn _ _ _ => K))); conv => whnf
    refine kdbsl4 ?_
    conv => whnf
    refine kgo ?_; (repeat (first | intro (X:Nat) | intro (z:St) | intro (av:V) | intro (tk:Option Nat) | (intro (K1:Kn _ _ _); (try clear K); rename Kn _ _ _ => K))); conv => whnf
    refine ⟨_, _, words19_den (.x 4) [107, 105, 110, 100] (nuK x) (by decide) (by simp [nuK]) (nuK_ok hxo) _ K.x, ?_⟩
    conv => whnf
    refine kgo ?_; (repeat (first | intro (X:Nat) | intro (z:St) | intro (av:V) | intro (tk:Option Nat) | (intro (K1:Kn _ _ _); (try clear K); rename Kn _ _ _ => K))); conv => whnf
    intro hg'
    exact ⟨l.length - (i + 1), fg [0, 6, 13, 16, 17] _, _, by omega, WkM.fg hg', i + 1, av, tk, hlt, rfl, rfl, K.cast (by rw [List.take_add_one, hx]; simp [lnK])⟩
  · rw [List.take_of_length_le hge] at K
    refine kgo ?_; (repeat (first | intro (X:Nat) | intro (z:St) | intro (av:V) | intro (tk:Option Nat) | (intro (K1:Kn _ _ _); (try clear K); rename Kn _ _ _ => K))); conv => whnf
    exact hQ _ _ _ _ rfl K
def ERS (mv sp av : V) (l : List Rw2) (i : Nat) : List V := (mv :: .bad :: .bad :: .bad :: .bad :: .bad :: sp :: .bad :: .bad :: .bad :: .bad :: .bad :: .bad :: av :: .bad :: .bad :: .bad :: .bad :: .i .i64 (i : Nat) :: List.replicate 208 .bad)
theorem rlS {s z : St} {Q : XM → List V → St → Prop} (ms : List Mv) (av : V) (tk : Option Nat) (xs : List (List UInt8)) (l : List Rw2) (hl : l.length ≤ 100000) (hxs : xs.length ≤ 600000) (hok : ∀ x ∈ l, i64 x.1 ∧ (i64 x.2.1 ∧ i64 x.2.2)) (K : Kn s z [.ac 1 av (xs.map V.s) tk])
    (hQ : ∀ e z' av' tk', fg [0, 6, 13] e = ER7 (.pu 47 (ms.map Mv.v) .u) (.pu 3 (l.map fun x => .ag (c3 x)) .u) av' → Kn s z' [.ac 1 av' ((xs ++ l.map lnS).map V.s) tk'] → Q .nrm e z') :
    HM gt1 Tryz.prog s (sA (nB 13 f7.body)) ((.pu 47 (ms.map Mv.v) .u) :: .bad :: .bad :: .bad :: .bad :: .bad :: (.pu 3 (l.map fun x => .ag (c3 x)) .u) :: .bad :: .bad :: .bad :: .bad :: .bad :: .bad :: av :: List.replicate 213 .bad) z Q := by
  have hll : (l.map fun x => V.ag (c3 x)).length = l.length := List.length_map ..
  refine kgo ?_; (repeat (first | intro (X:Nat) | intro (z:St) | intro (av:V) | intro (tk:Option Nat) | (intro (K1:Kn _ _ _); (try clear K); rename Kn _ _ _ => K))); conv => whnf
  refine HM.loop gnm1 fun hg => ⟨fun n e z' => ∃ (i : Nat) (av' : V) (tk' : Option Nat), i ≤ l.length ∧ n = l.length - i ∧ e = ERS (.pu 47 (ms.map Mv.v) .u) (.pu 3 (l.map fun x => .ag (c3 x)) .u) av' l i ∧ Kn s z' [.ac 1 av' ((xs ++ (l.take i).map lnS).map V.s) tk'],
    ⟨l.length, fg [0, 6, 13, 18] _, _, WkM.fg hg, 0, av, tk, Nat.zero_le _, rfl, rfl, K.cast (by rw [List.take_zero, List.map_nil, List.append_nil])⟩, ?_⟩
  clear K
  rintro n e z1 ⟨i, av', tk', hi, rfl, rfl, K⟩
  conv => whnf
  refine kgo ?_; (repeat (first | intro (X:Nat) | intro (z:St) | intro (av:V) | intro (tk:Option Nat) | (intro (K1:Kn _ _ _); (try clear K); rename Kn _ _ _ => K))); conv => whnf
  rw [hll]
  refine brL ⟨fun hlt => ?_, fun hge => ?_⟩ <;> conv => whnf
  · have hx : l[i]? = some l[i] := List.getElem?_eq_getElem hlt
    have hxo := hok _ (List.getElem_mem hlt)
    generalize l[i] = x at hx hxo
    have hmi : (l.map fun x => V.ag (c3 x))[((i : Nat) : Int).toNat]? = some (.ag (c3 x)) := by simp [hx]
    have hal : ((xs ++ (l.take i).map lnS).map V.s).length ≤ 700000 := by simp; omega
    refine kgo ?_; (repeat (first | intro (X:Nat) | intro (z:St) | intro (av:V) | intro (tk:Option Nat) | (intro (K1:Kn _ _ _); (try clear K); rename Kn _ _ _ => K))); conv => whnf
    refine kdbsl3 ?_
    conv => whnf
    refine kgo ?_; (repeat (first | intro (X:Nat) | intro (z:St) | intro (av:V) | intro (tk:Option Nat) | (intro (K1:Kn _ _ _); (try clear K); rename Kn _ _ _ => K))); conv => whnf
    refine ⟨_, _, words19_den (.x 3) [115, 112, 97, 110] (nuS x) (by decide) (by simp [nuS]) (nuS_ok hxo) _ K.x, ?_⟩
    conv => whnf
    refine kgo ?_; (repeat (first | intro (X:Nat) | intro (z:St) | intro (av:V) | intro (tk:Option Nat) | (intro (K1:Kn _ _ _); (try clear K); rename Kn _ _ _ => K))); conv => whnf
    intro hg'
    exact ⟨l.length - (i + 1), fg [0, 6, 13, 18] _, _, by omega, WkM.fg hg', i + 1, av, tk, hlt, rfl, rfl, K.cast (by rw [List.take_add_one, hx]; simp [lnS])⟩
  · rw [List.take_of_length_le hge] at K
    refine kgo ?_; (repeat (first | intro (X:Nat) | intro (z:St) | intro (av:V) | intro (tk:Option Nat) | (intro (K1:Kn _ _ _); (try clear K); rename Kn _ _ _ => K))); conv => whnf
    exact hQ _ _ _ _ rfl K
def ERF (mv sp av : V) (l : List RwF) (i : Nat) : List V := (mv :: .bad :: .bad :: .bad :: .bad :: .bad :: sp :: .bad :: .bad :: .bad :: .bad :: .bad :: .bad :: av :: .bad :: .bad :: .bad :: .bad :: .bad :: .pu 3 (l.map fun x => .ag (csF x)) .u :: .i .i64 (i : Nat) :: List.replicate 206 .bad)
theorem rlF {s z : St} {Q : XM → List V → St → Prop} (ms : List Mv) (sp av : V) (tk : Option Nat) (xs : List (List UInt8)) (l : List RwF) (hl : l.length ≤ 100000) (hxs : xs.length ≤ 600000) (hok : ∀ x ∈ l, (i64 x.1.1 ∧ i64 x.1.2) ∧ i64 x.2) (K : Kn s z [.ac 1 av (xs.map V.s) tk])
    (hQ : ∀ e z' av' tk', fg [0, 6, 13] e = ER7 (.pu 47 (ms.map Mv.v) .u) sp av' → Kn s z' [.ac 1 av' ((xs ++ l.map lnF).map V.s) tk'] → Q .nrm e z') :
    HM gt1 Tryz.prog s (sA (nB 15 f7.body)) ((.pu 47 (ms.map Mv.v) .u) :: .bad :: .bad :: .bad :: .bad :: .bad :: sp :: .bad :: .bad :: .bad :: .bad :: .bad :: .bad :: av :: .bad :: .bad :: .bad :: .bad :: .bad :: .pu 3 (l.map fun x => .ag (csF x)) .u :: List.replicate 207 .bad) z Q := by
  have hll : (l.map fun x => V.ag (csF x)).length = l.length := List.length_map ..
  refine kgo ?_; (repeat (first | intro (X:Nat) | intro (z:St) | intro (av:V) | intro (tk:Option Nat) | (intro (K1:Kn _ _ _); (try clear K); rename Kn _ _ _ => K))); conv => whnf
  refine HM.loop gnm1 fun hg => ⟨fun n e z' => ∃ (i : Nat) (av' : V) (tk' : Option Nat), i ≤ l.length ∧ n = l.length - i ∧ e = ERF (.pu 47 (ms.map Mv.v) .u) sp av' l i ∧ Kn s z' [.ac 1 av' ((xs ++ (l.take i).map lnF).map V.s) tk'],
    ⟨l.length, fg [0, 6, 13, 19, 20] _, _, WkM.fg hg, 0, av, tk, Nat.zero_le _, rfl, rfl, K.cast (by rw [List.take_zero, List.map_nil, List.append_nil])⟩, ?_⟩
  clear K
  rintro n e z1 ⟨i, av', tk', hi, rfl, rfl, K⟩
  conv => whnf
  refine kgo ?_; (repeat (first | intro (X:Nat) | intro (z:St) | intro (av:V) | intro (tk:Option Nat) | (intro (K1:Kn _ _ _); (try clear K); rename Kn _ _ _ => K))); conv => whnf
  rw [hll]
  refine brL ⟨fun hlt => ?_, fun hge => ?_⟩ <;> conv => whnf
  · have hx : l[i]? = some l[i] := List.getElem?_eq_getElem hlt
    have hxo := hok _ (List.getElem_mem hlt)
    generalize l[i] = x at hx hxo
    have hmi : (l.map fun x => V.ag (csF x))[((i : Nat) : Int).toNat]? = some (.ag (csF x)) := by simp [hx]
    have hal : ((xs ++ (l.take i).map lnF).map V.s).length ≤ 700000 := by simp; omega
    refine kgo ?_; (repeat (first | intro (X:Nat) | intro (z:St) | intro (av:V) | intro (tk:Option Nat) | (intro (K1:Kn _ _ _); (try clear K); rename Kn _ _ _ => K))); conv => whnf
    refine kdbsl3 ?_
    conv => whnf
    refine kgo ?_; (repeat (first | intro (X:Nat) | intro (z:St) | intro (av:V) | intro (tk:Option Nat) | (intro (K1:Kn _ _ _); (try clear K); rename Kn _ _ _ => K))); conv => whnf
    refine ⟨_, _, words19_den (.x 3) [102, 108, 111, 119] (nuF x) (by decide) (by simp [nuF]) (nuF_ok hxo) _ K.x, ?_⟩
    conv => whnf
    refine kgo ?_; (repeat (first | intro (X:Nat) | intro (z:St) | intro (av:V) | intro (tk:Option Nat) | (intro (K1:Kn _ _ _); (try clear K); rename Kn _ _ _ => K))); conv => whnf
    intro hg'
    exact ⟨l.length - (i + 1), fg [0, 6, 13, 19, 20] _, _, by omega, WkM.fg hg', i + 1, av, tk, hlt, rfl, rfl, K.cast (by rw [List.take_add_one, hx]; simp [lnF])⟩
  · rw [List.take_of_length_le hge] at K
    refine kgo ?_; (repeat (first | intro (X:Nat) | intro (z:St) | intro (av:V) | intro (tk:Option Nat) | (intro (K1:Kn _ _ _); (try clear K); rename Kn _ _ _ => K))); conv => whnf
    exact hQ _ _ _ _ rfl K
end Go.Proofs.YthoojnjcdllgdaaGreatDoor
