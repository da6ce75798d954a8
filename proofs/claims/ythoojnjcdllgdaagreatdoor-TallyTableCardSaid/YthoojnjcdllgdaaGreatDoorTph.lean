import Derived.Test.YthoojnjcdllgdaaGreatDoorTpf
import Derived.Test.YthoojnjcdllgdaaGreatDoorTga
import Derived.Test.YthoojnjcdllgdaaGreatDoorTsort
/-
  A map's keys that are pairs, sorted: in this layer's words. No statement stands here.
-/
set_option linter.all false
namespace Go.Proofs.YthoojnjcdllgdaaGreatDoor
open Go Rf Go.RowKit Go.Maps Go.Lib Go.Sort Go.Shelf Go.Proofs TallyP Go.WideElems Go.WideShapes
set_option maxRecDepth 100000
set_option maxHeartbeats 4000000

def pE (k : Int × Int) : V := .ag [.i .i64 k.1, .i .i64 k.2]
theorem enc_p : KEnc (.g [LK.i, LK.i]) pE := ⟨fun _ => rfl, fun a b => by
  obtain ⟨a1, a2⟩ := a
  obtain ⟨b1, b2⟩ := b
  simp only [keq, pE, List.length_cons, List.length_nil, and_self, if_true, veqs, veq, eqZ_eq]
  by_cases h1 : a1 = b1
  · by_cases h2 : a2 = b2
    · simp [h1, h2]
    · simp [h1, h2]
  · simp [h1]⟩
theorem vrep_pair {cx : Cx} {h : Array Obj} {n : Nat → Prop} {k : Int × Int} {y : Value} (H : VRep cx h n (pE k) y) : y = encP k := by
  cases H with
  | ag cs vs hs h1 h2 =>
    have q0 := h2 0 (by simp)
    have q1 := h2 1 (by simp)
    have hs : vs.size = 2 := hs
    obtain ⟨l⟩ := vs
    match l, hs with
    | [a, b], _ =>
      have q0 : VRep cx h n (.i .i64 k.1) a := q0
      have q1 : VRep cx h n (.i .i64 k.2) b := q1
      cases q0
      cases q1
      rfl
theorem er_keysP {S : Type} {sE : S → V} {cx : Cx} {h : Array Obj} {n : Nat → Prop} : ∀ {l : List ((Int × Int) × S)} {b : Nat} {ml : List MapEntry}, All2 (ER cx h n) (mEs pE sE l b) ml → ml.map (·.key) = (keysL l).map encP ∧ ml.map (·.born) = List.range' b l.length
  | [], b, ml, h => by cases h; exact ⟨rfl, rfl⟩
  | (k, s) :: r, b, ml, h => by
    cases h with
    | @cons _ y _ m h1 h2 =>
      obtain ⟨e1, e2⟩ := er_keysP h2
      obtain ⟨hb, hk, -⟩ := h1
      have hk : y.key = encP k := vrep_pair hk
      refine ⟨?_, ?_⟩
      · rw [List.map_cons, e1, hk]; rfl
      · rw [List.map_cons, e2, hb, List.length_cons, List.range'_succ]
theorem ownsP_of {S : Type} {sE : S → V} {cx : Cx} {s : St} {w : World} (R : Rel cx s w.heap) {M clk : Nat} {l : List ((Int × Int) × S)} (hg : s.get M = some (.x (.mp (mEs pE sE l 0) clk))) (hc : clk = l.length)
    (hk : ∀ k ∈ keysL l, keyOf Tryz.prog 109 (encP k) = some (kP k)) (hd : (keysL l).Nodup) (hn : l.length ≤ maxLen) : ∃ D0 : DataW Unit, w.ownsMap Tryz.prog 109 rP (cx.r M).b l.length D0 ∧ (∀ x l', keyOf Tryz.prog 109 (encP x) = some l' → (has D0 l' = true ↔ x ∈ keysL l)) ∧ Maps.size D0 = l.length := by
  obtain ⟨ml, h1, h2⟩ := (R.obj M _ hg).2
  obtain ⟨e1, e2⟩ := er_keysP h2
  have hlen : ml.length = l.length := by have := congrArg List.length e1; simpa [keysL] using this
  have hrd : ∀ x ∈ ml, ∃ k ∈ keysL l, x.key = encP k := fun x hx => by
    have : x.key ∈ (keysL l).map encP := by rw [← e1]; exact List.mem_map_of_mem hx
    obtain ⟨k, hk, e⟩ := List.mem_map.1 this
    exact ⟨k, hk, e.symm⟩
  have hrdx : ∀ x ∈ ml, ∀ k ∈ keysL l, x.key = encP k → WideElems.rd (H := Unit) Tryz.prog 109 rP x = some (kP k, .lit (.bool true)) := fun x hx k hkm e => by
    unfold WideElems.rd
    rw [e, hk k hkm]; rfl
  refine ⟨.map ((ml.map (rg Tryz.prog 109 rP)).foldr DataW.insert []), ⟨ml.toArray, clk, h1, ⟨?_, ⟨fun x hx => ?_, ?_, ?_⟩, fun x hx => ?_⟩, ?_, ?_⟩, ?_, ?_⟩
  · simp [hlen, hn]
  · have hx : x ∈ ml := by simpa using hx
    have : x.born ∈ List.range' 0 l.length := by rw [← e2]; exact List.mem_map_of_mem hx
    rw [List.mem_range'_1] at this
    omega
  · simp only [List.toList_toArray]
    rw [e2]; exact List.nodup_range'
  · simp only [List.toList_toArray]
    rw [e1]
    exact (List.pairwise_map.2 (hd.imp fun h e => h (encP_inj e)))
  · have hx : x ∈ ml := by simpa using hx
    obtain ⟨k, hkm, e⟩ := hrd x hx
    exact ⟨_, hrdx x hx k hkm e⟩
  · simp [hlen]
  · simp
  · intro x l' hl'
    have hp := sorted_perm (ml.map (rg (H := Unit) Tryz.prog 109 rP))
    have hmem : ∀ p : Lit × DataW Unit, p ∈ (ml.map (rg (H := Unit) Tryz.prog 109 rP)).foldr DataW.insert [] ↔ p ∈ ml.map (rg (H := Unit) Tryz.prog 109 rP) := fun p => hp.mem_iff
    rw [has_eq, List.any_eq_true]
    obtain ⟨s1, rfl⟩ := lawP.str hl'
    constructor
    · rintro ⟨p, hpm, hs⟩
      obtain ⟨y, hy, rfl⟩ := List.mem_map.1 ((hmem p).1 hpm)
      obtain ⟨k, hkm, e⟩ := hrd y hy
      rw [rg, hrdx y hy k hkm e] at hs
      have hs : (kP k).sameKey (.string s1) = true := hs
      have e2 : kP k = .string s1 := by
        unfold kP at hs ⊢
        simpa [Lit.sameKey] using hs
      have := kP_inj hl' (e2 ▸ hk k hkm)
      subst this
      exact hkm
    · intro hx
      have : encP x ∈ ml.map (·.key) := by rw [e1]; exact List.mem_map_of_mem hx
      obtain ⟨y, hy, e⟩ := List.mem_map.1 this
      refine ⟨rg Tryz.prog 109 rP y, (hmem _).2 (List.mem_map_of_mem hy), ?_⟩
      rw [rg, hrdx y hy x hx e]
      have e2 : kP x = .string s1 := Option.some.inj ((hk x hx).symm.trans hl')
      show (kP x).sameKey (.string s1) = true
      rw [e2]; simp [Lit.sameKey]
  · show (List.foldr DataW.insert [] (ml.map (rg Tryz.prog 109 rP))).length = _
    rw [(sorted_perm _).length_eq, List.length_map, hlen]
end Go.Proofs.YthoojnjcdllgdaaGreatDoor
/-
  Contract: a map's keys that are pairs, sorted. No statement stands here.
-/
set_option linter.all false
namespace Go.Proofs.YthoojnjcdllgdaaGreatDoor
open Go Rf Go.RowKit Go.Maps Go.Lib Go.Sort Go.Shelf Go.Proofs TallyP Go.WideElems Go.WideShapes
set_option maxRecDepth 100000
set_option maxHeartbeats 4000000

theorem sortP_pw (l : List (Int × Int)) : (sortP l).Pairwise fun x y => (!(ltP y x)) = true :=
  List.pairwise_mergeSort (fun a b c h1 h2 => by simp [ltP] at *; omega) (fun a b => by simp [ltP]; omega) l
theorem sortP_perm {l l' : List (Int × Int)} (h : l.Perm l') : sortP l = sortP l' := by
  refine List.Perm.eq_of_pairwise (le := fun x y => (!(ltP y x)) = true) (fun a b _ _ h1 h2 => ?_) (sortP_pw l) (sortP_pw l') (((List.mergeSort_perm l _).trans h).trans (List.mergeSort_perm l' _).symm)
  simp only [Bool.not_eq_true'] at h1 h2
  exact ordP.tot _ _ h2 h1
theorem keysP_perm {D0 : DataW Unit} {ss ks : List (Int × Int)} (h : KeysP D0 ss) (hd : ks.Nodup) (hm : ∀ x l', keyOf Tryz.prog 109 (encP x) = some l' → (has D0 l' = true ↔ x ∈ ks)) (hk : ∀ k ∈ ks, keyOf Tryz.prog 109 (encP k) = some (kP k)) : ss.Perm ks := by
  obtain ⟨left, hC, hl⟩ := h
  refine (List.perm_ext_iff_of_nodup hC.1 hd).2 fun x => ⟨fun hx => ?_, fun hx => ?_⟩
  · obtain ⟨l', hl'⟩ := hC.2.1 x hx
    exact (hm x l' hl').1 ((hC.2.2 x l' hl').1 hx).1
  · exact (hC.2.2 x _ (hk x hx)).2 ⟨(hm x _ (hk x hx)).2 hx, hl _⟩
theorem sortedP_den {sE : Sm → V} {s : St} {B M clk zf ty : Nat} {l : List ((Int × Int) × Sm)} (hB : s.get B = some (.c [.m M] zf (some ty))) (hM : s.get M = some (.x (.mp (mEs pE sE l 0) clk))) (hc : clk = l.length)
    (hk : ∀ k ∈ keysL l, (Lit.int .i64 k.1).wf = true ∧ (Lit.int .i64 k.2).wf = true) (hd : (keysL l).Nodup) (hn : l.length ≤ 1000000) :
    Den gt0 Tryz.prog 37 [.fn 56 [.p B 0], .fn 39 []] s (.pu 2 ((sortP (keysL l)).map pE) .u) s := by
  have hmx : 1000000 ≤ maxLen := by decide
  refine Den.below fun cx w xs R G A => ?_
  have hk' : ∀ k ∈ keysL l, keyOf Tryz.prog 109 (encP k) = some (kP k) := fun k hkm => keyOf_P k (hk k hkm).1 (hk k hkm).2
  obtain ⟨D0, hown, hmem, hsize⟩ := ownsP_of R hM hc hk' hd (by omega)
  obtain ⟨arr, el, lo, hi, a1, a2, a3, a4, -⟩ := R.obj B _ hB
  obtain ⟨b1, b2, b3, b4⟩ := a2
  have hd0 : (cx.r B).d = 0 := (b4 ty rfl).2.1
  have h40 := a4 0 (by simp)
  rw [hd0] at h40
  have hcell : w.cell? ⟨(cx.r B).b, 0, none⟩ = some (.map (some (cx.r M).b)) := by
    rw [cell?_eq, cellAt, a1]
    simp only
    have h0 : 0 < arr.size := by rw [hd0] at b1; simp at b1; omega
    rw [Array.getElem?_eq_getElem h0]
    rw [show arr.getD (0 + 0) undef = arr[0] by simp [Array.getD_eq_getD_getElem?, h0]] at h40
    generalize arr[0] = y at h40
    have h40 : VRep cx w.heap s.L (.m M) y := h40
    cases h40
    rfl
  obtain ⟨y, hy, hr⟩ := arep A (j := 0) rfl
  obtain ⟨y2, hy2, hr2⟩ := arep A (j := 1) rfl
  have hy0 : y = .func (.func 56) #[] #[.pointer (some ⟨(cx.r B).b, 0, none⟩)] := by
    cases hr with
    | fn _ _ vs hs hv =>
      have h0 := hv 0 (by simp)
      have hs1 : vs.size = 1 := hs
      have : vs = #[.pointer (some ⟨(cx.r B).b, 0, none⟩)] := by
        refine arr1 hs1 ?_
        rw [show vs.getD 0 undef = vs[0] by simp [Array.getD_eq_getD_getElem?, hs1]] at h0
        rw [Array.getElem?_eq_getElem (by omega)]
        generalize vs[0] = z at h0
        have h0 : VRep cx w.heap s.L (.p B 0) z := h0
        cases h0
        rw [hd0]
      rw [this]
  have hy1 : y2 = .func (.func 39) #[] #[] := by
    cases hr2 with
    | fn _ _ vs hs hv =>
      have hs1 : vs.size = 0 := hs
      have : vs = #[] := Array.eq_empty_of_size_eq_zero hs1
      rw [this]
  have hxs : xs = #[.func (.func 56) #[] #[.pointer (some ⟨(cx.r B).b, 0, none⟩)], .func (.func 39) #[] #[]] := by
    rw [hy0] at hy
    rw [hy1] at hy2
    have hs2 : xs.size = 2 := by rw [A.len]; rfl
    obtain ⟨l2⟩ := xs
    match l2, hs2 with
    | [p, q], _ =>
      simp at hy hy2
      rw [hy, hy2]
  rw [hxs]
  have hlt : (cx.r B).b < w.heap.size := by
    rcases Nat.lt_or_ge (cx.r B).b w.heap.size with h | h
    · exact h
    · rw [Array.getElem?_eq_none h] at a1; cases a1
  refine (sortedFP w (cx.r B).b _ _ D0 hlt hcell hown (by omega) (by omega)).mono fun e w' ⟨v, ss, h1, h2, h3, h4⟩ => ?_
  have hpm := keysP_perm h2 hd hmem hk'
  have hms : sortP ss = sortP (keysL l) := sortP_perm hpm
  have hln : ss.length = (sortP (keysL l)).length := by rw [← hms]; simp [sortP]
  rw [hms] at h3
  generalize sortP (keysL l) = rr at h3 hln
  obtain ⟨F, h5, h6⟩ := row_rep (xs := rr.map pE) h3 (by rw [List.length_map, hln]) (fun i hi => by
    have hi : i < rr.length := by omega
    simp [List.getD, hi, V.cells, pE]) (fun y hy => by
      unfold encF at hy
      obtain ⟨k, -, hy⟩ := List.mem_flatMap.1 hy
      simp only [List.mem_cons, List.not_mem_nil, or_false] at hy
      rcases hy with rfl | rfl <;> rfl) (fun cx h m i j hi hj => by
    have hi : i < rr.length := by omega
    have hx : rr[i]? = some rr[i] := List.getElem?_eq_getElem hi
    generalize rr[i] = k at hx
    have e1 := encF_at rr i j k hx hj
    rw [show (rr.map pE).getD i .bad = pE k by simp [List.getD, hx]]
    rw [show (encF rr).getD (i * 2 + j) undef = (encL k).getD j undef by simp only [List.getD, e1]]
    match j, hj with
    | 0, _ => exact .i _ _
    | 1, _ => exact .i _ _)
  exact ⟨v, F, h1, h4, h5, h6⟩
end Go.Proofs.YthoojnjcdllgdaaGreatDoor
