/-
  A map's keys that are pairs, sorted: in this layer's words. No statement stands here.
-/
import Derived.Test.YthoojnjcdllgdaaTpf
import Derived.Test.YthoojnjcdllgdaaTga
import Derived.Test.YthoojnjcdllgdaaTsort
set_option linter.all false
namespace Go.Proofs.Ythoojnjcdllgdaa
open Go Rf Go.RowKit Go.Maps Go.Lib Go.Sort Go.Shelf Go.Proofs TallyP Go.WideElems Go.WideShapes
set_option maxRecDepth 100000
set_option maxHeartbeats 4000000

def pE (k : Int × Int) : V := .ag [.i .i64 k.1, .i .i64 k.2]
theorem enc_p : KEnc (.g [LK.i, LK.i]) pE := ⟨fun _ => rfl, fun a b => by
  obtain ⟨a1, a2⟩ := a
  obtain ⟨b1, b2⟩ := b
  simp only [keq, pE, List.length_cons, List.length_nil, and_self, if_true, veqs, veq, eqZ_eq]
  by_cases h1 : a1 = b1
  · by_cases h2 : a2 = b2
    · simp [h1, h2]
    · simp [h1, h2]
  · simp [h1]⟩
theorem vrep_pair {cx : Cx} {h : Array Obj} {n : Nat → Prop} {k : Int × Int} {y : Value} (H : VRep cx h n (pE k) y) : y = encP k := by
  cases H with
  | ag cs vs hs h1 h2 =>
    have q0 := h2 0 (by simp)
    have q1 := h2 1 (by simp)
    have hs : vs.size = 2 := hs
    obtain ⟨l⟩ := vs
    match l, hs with
    | [a, b], _ =>
      have q0 : VRep cx h n (.i .i64 k.1) a := q0
      have q1 : VRep cx h n (.i .i64 k.2) b := q1
      cases q0
      cases q1
      rfl
theorem er_keysP {S : Type} {sE : S → V} {cx : Cx} {h : Array Obj} {n : Nat → Prop} : ∀ {l : List ((Int × Int) × S)} {b : Nat} {ml : List MapEntry}, All2 (ER cx h n) (mEs pE sE l b) ml → ml.map (·.key) = (keysL l).map encP ∧ ml.map (·.born) = List.range' b l.length
  | [], b, ml, h => by cases h; exact ⟨rfl, rfl⟩
  | (k, s) :: r, b, ml, h => by
    cases h with
    | @cons _ y _ m h1 h2 =>
      obtain ⟨e1, e2⟩ := er_keysP h2
      obtain ⟨hb, hk, -⟩ := h1
      have hk : y.key = encP k := vrep_pair hk
      refine ⟨?_, ?_⟩
      · rw [List.map_cons, e1, hk]; rfl
      · rw [List.map_cons, e2, hb, List.length_cons, List.range'_succ]
theorem ownsP_of {S : Type} {sE : S → V} {cx : Cx} {s : St} {w : World} (R : Rel cx s w.heap) {M clk : Nat} {l : List ((Int × Int) × S)} (hg : s.get M = some (.x (.mp (mEs pE sE l 0) clk))) (hc : clk = l.length)
    (hk : ∀ k ∈ keysL l, keyOf Try.prog 103 (encP k) = some (kP k)) (hd : (keysL l).Nodup) (hn : l.length ≤ maxLen) : ∃ D0 : DataW Unit, w.ownsMap Try.prog 103 rP (cx.r M).b l.length D0 ∧ (∀ x l', keyOf Try.prog 103 (encP x) = some l' → (has D0 l' = true ↔ x ∈ keysL l)) ∧ Maps.size D0 = l.length := by
  obtain ⟨ml, h1, h2⟩ := (R.obj M _ hg).2
  obtain ⟨e1, e2⟩ := er_keysP h2
  have hlen : ml.length = l.length := by have := congrArg List.length e1; simpa [keysL] using this
  have hrd : ∀ x ∈ ml, ∃ k ∈ keysL l, x.key = encP k := fun x hx => by
    have : x.key ∈ (keysL l).map encP := by rw [← e1]; exact List.mem_map_of_mem hx
    obtain ⟨k, hk, e⟩ := List.mem_map.1 this
    exact ⟨k, hk, e.symm⟩
  have hrdx : ∀ x ∈ ml, ∀ k ∈ keysL l, x.key = encP k → WideElems.rd (H := Unit) Try.prog 103 rP x = some (kP k, .lit (.bool true)) := fun x hx k hkm e => by
    unfold WideElems.rd
    rw [e, hk k hkm]; rfl
  refine ⟨.map ((ml.map (rg Try.prog 103 rP)).foldr DataW.insert []), ⟨ml.toArray, clk, h1, ⟨?_, ⟨fun x hx => ?_, ?_, ?_⟩, fun x hx => ?_⟩, ?_, ?_⟩, ?_, ?_⟩
  · simp [hlen, hn]
  · have hx : x ∈ ml := by simpa using hx
    have : x.born ∈ List.range' 0 l.length := by rw [← e2]; exact List.mem_map_of_mem hx
    rw [List.mem_range'_1] at this
    omega
  · simp only [List.toList_toArray]
    rw [e2]; exact List.nodup_range'
  · simp only [List.toList_toArray]
    rw [e1]
    exact (List.pairwise_map.2 (hd.imp fun h e => h (encP_inj e)))
  · have hx : x ∈ ml := by simpa using hx
    obtain ⟨k, hkm, e⟩ := hrd x hx
    exact ⟨_, hrdx x hx k hkm e⟩
  · simp [hlen]
  · simp
  · intro x l' hl'
    have hp := sorted_perm (ml.map (rg (H := Unit) Try.prog 103 rP))
    have hmem : ∀ p : Lit × DataW Unit, p ∈ (ml.map (rg (H := Unit) Try.prog 103 rP)).foldr DataW.insert [] ↔ p ∈ ml.map (rg (H := Unit) Try.prog 103 rP) := fun p => hp.mem_iff
    rw [has_eq, List.any_eq_true]
    obtain ⟨s1, rfl⟩ := lawP.str hl'
    constructor
    · rintro ⟨p, hpm, hs⟩
      obtain ⟨y, hy, rfl⟩ := List.mem_map.1 ((hmem p).1 hpm)
      obtain ⟨k, hkm, e⟩ := hrd y hy
      rw [rg, hrdx y hy k hkm e] at hs
      have hs : (kP k).sameKey (.string s1) = true := hs
      have e2 : kP k = .string s1 := by
        unfold kP at hs ⊢
        simpa [Lit.sameKey] using hs
      have := kP_inj hl' (e2 ▸ hk k hkm)
      subst this
      exact hkm
    · intro hx
      have : encP x ∈ ml.map (·.key) := by rw [e1]; exact List.mem_map_of_mem hx
      obtain ⟨y, hy, e⟩ := List.mem_map.1 this
      refine ⟨rg Try.prog 103 rP y, (hmem _).2 (List.mem_map_of_mem hy), ?_⟩
      rw [rg, hrdx y hy x hx e]
      have e2 : kP x = .string s1 := Option.some.inj ((hk x hx).symm.trans hl')
      show (kP x).sameKey (.string s1) = true
      rw [e2]; simp [Lit.sameKey]
  · show (List.foldr DataW.insert [] (ml.map (rg Try.prog 103 rP))).length = _
    rw [(sorted_perm _).length_eq, List.length_map, hlen]
end Go.Proofs.Ythoojnjcdllgdaa
