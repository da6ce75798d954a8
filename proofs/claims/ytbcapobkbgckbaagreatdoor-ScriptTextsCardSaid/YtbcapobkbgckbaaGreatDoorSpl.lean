/-
  The plain law: an entry's line is read as that entry, a script's text as that script. No statement stands here.
-/
import Derived.Test.YtbcapobkbgckbaaGreatDoorSnu
import Derived.Test.YtbcapobkbgckbaaGreatDoorSfm
set_option linter.all false
namespace Go.Proofs.YtbcapobkbgckbaaGreatDoor
open Go Rf
set_option maxRecDepth 100000
set_option maxHeartbeats 4000000

def mayF (f : Fm) (e : Ey) : Bool :=
  !(ltZ e.a 0) && !(ltZ 2147483647 e.a) && (f.a || !(ltZ 0 e.a)) && (f.n || eqZ e.n 0) && (f.b == ltZ 0 (e.b.length : Nat)) && !(ltZ 65536 (e.b.length : Nat)) && (!f.n || (!(ltZ e.n f.l) && (ltZ f.l 0 || !(ltZ 2147483647 e.n))))
def mayS (e : Ey) : Bool := match fmS e.k with
  | none => false
  | some f => mayF f e
def hxD (n : Nat) : UInt8 := if n < 10 then UInt8.ofNat (48 + n) else UInt8.ofNat (87 + n)
def hxB (x : UInt8) : List UInt8 := [hxD (x.toNat / 16), hxD (x.toNat % 16)]
def numF (b : Bool) (n : Int) : List UInt8 := if b then 32 :: Lib.itoa n else []
def lnF (f : Fm) (e : Ey) : List UInt8 := f.w ++ numF f.a e.a ++ numF f.n e.n ++ (if f.b then [32] else []) ++ e.b.flatMap hxB
def lnS (e : Ey) : List UInt8 := match fmS e.k with
  | none => []
  | some f => lnF f e
def txL (l : List Ey) : List UInt8 := l.flatMap fun e => lnS e ++ [10]
def txS (l : List Ey) : List UInt8 := if l.all mayS then txL l else []
def EyOk (e : Ey) : Prop := i64 e.k ∧ i64 e.a ∧ i64 e.n

/-! how a line is read: the code's way -/
def hxV (c : UInt8) : Option Nat := if 48 ≤ c.toNat ∧ c.toNat ≤ 57 then some (c.toNat - 48) else if 97 ≤ (c ||| 32).toNat ∧ (c ||| 32).toNat ≤ 122 then (if (c ||| 32).toNat - 87 < 16 then some ((c ||| 32).toNat - 87) else none) else none
def hx2 (a b : UInt8) : Nat := match hxV a, hxV b with
  | some x, some y => 16 * x + y
  | _, _ => 0
def hxP : List UInt8 → List UInt8
  | a :: b :: t => UInt8.ofNat (hx2 a b) :: hxP t
  | _ => []
def restC (f : Fm) (ws : List (List UInt8)) : List (List UInt8) := if f.a then (ws.tail ++ [[], []]).tail else ws.tail ++ [[], []]
def prC (f : Fm) (k : Int) (ws : List (List UInt8)) : Ey :=
  ⟨k, if f.a then atoiV ((ws.tail ++ [[], []]).headD []) else 0, if f.n then parseV ((restC f ws).headD []) else 0, if f.b then hxP ((restC f ws).headD []) else []⟩
def rdK (S : List UInt8) (ws : List (List UInt8)) (k : Int) : Option Ey := match fmS k with
  | none => none
  | some f => if f.w = ws.headD [] ∧ mayF f (prC f k ws) = true ∧ lnF f (prC f k ws) = S then some (prC f k ws) else none
def ksL (k : Nat) : List Int := (List.range' k (10 - k)).map fun (i : Nat) => (i : Int)
def rdC (S : List UInt8) : Option Ey := (ksL 1).findSome? (rdK S (cutL 32 S))
/-! the document's way -/
def nbR (c : UInt8) : Nat := if 97 ≤ c.toNat then (c.toNat - 87) % 256 % 16 else ((c.toNat + 208) % 256) % 16
def hxR : List UInt8 → List UInt8
  | a :: b :: t => UInt8.ofNat (16 * nbR a + nbR b) :: hxR t
  | _ => []
def whF (f : Fm) : List UInt8 := (if f.a then [97] else []) ++ (if f.n then [110] else []) ++ (if f.b then [98] else [])
def stR (e : Ey) (c : UInt8) (x : List UInt8) : Ey := if c = 97 then { e with a := valR x } else if c = 110 then { e with n := valR x } else { e with b := e.b ++ hxR x }
def prR (k : Int) (wh : List UInt8) (xs : List (List UInt8)) : Ey := (wh.zip xs).foldl (fun e p => stR e p.1 p.2) ⟨k, 0, 0, []⟩
def okR (ws : List (List UInt8)) (k : Int) : Option Fm := match fmS k with
  | none => none
  | some f => if f.w = ws.headD [] ∧ ws.length = 1 + (whF f).length then some f else none
def rdRk (S : List UInt8) (ws : List (List UInt8)) (k : Int) : Option (Option Ey) := match okR ws k with
  | none => none
  | some f => some (if mayS (prR k (whF f) ws.tail) = true ∧ lnS (prR k (whF f) ws.tail) = S then some (prR k (whF f) ws.tail) else none)
def rdR (S : List UInt8) : Option Ey := ((ksL 1).findSome? (rdRk S (cutL 32 S))).getD none

/-! hexadecimal digits -/
theorem hxV_D : ∀ n, n < 16 → hxV (hxD n) = some n := by decide
theorem nbR_D : ∀ n, n < 16 → nbR (hxD n) = n := by decide
theorem hxD_no : ∀ n, n < 16 → hxD n ≠ 32 ∧ hxD n ≠ 10 := by decide
theorem byte_eq (x : UInt8) : UInt8.ofNat (16 * (x.toNat / 16) + x.toNat % 16) = x := by
  rw [Nat.div_add_mod]; exact UInt8.toNat_inj.1 (by rw [UInt8.toNat_ofNat']; exact Nat.mod_eq_of_lt x.toNat_lt)
theorem hxP_B : ∀ l : List UInt8, hxP (l.flatMap hxB) = l
  | [] => rfl
  | x :: l => by
    have hx := x.toNat_lt
    rw [List.flatMap_cons]
    show UInt8.ofNat (hx2 (hxD _) (hxD _)) :: hxP (l.flatMap hxB) = _
    rw [hxP_B l]
    unfold hx2
    rw [hxV_D _ (by omega), hxV_D _ (by omega)]
    simp only [byte_eq]
theorem hxR_B : ∀ l : List UInt8, hxR (l.flatMap hxB) = l
  | [] => rfl
  | x :: l => by
    have hx := x.toNat_lt
    rw [List.flatMap_cons]
    show UInt8.ofNat (16 * nbR (hxD _) + nbR (hxD _)) :: hxR (l.flatMap hxB) = _
    rw [hxR_B l, nbR_D _ (by omega), nbR_D _ (by omega), byte_eq]
theorem hx_no (l : List UInt8) : 32 ∉ l.flatMap hxB ∧ 10 ∉ l.flatMap hxB := by
  constructor <;>
  · intro h
    obtain ⟨x, -, hx⟩ := List.mem_flatMap.1 h
    have h1 := x.toNat_lt
    simp only [hxB, List.mem_cons, List.not_mem_nil, or_false] at hx
    rcases hx with hx | hx
    · have := hxD_no (x.toNat / 16) (by omega); rw [← hx] at this; simp at this
    · have := hxD_no (x.toNat % 16) (by omega); rw [← hx] at this; simp at this
/-! lines -/
theorem fm_no (k : Int) (f : Fm) (h : fmS k = some f) : 32 ∉ f.w ∧ 10 ∉ f.w ∧ f.w ≠ [] ∧ (f.n && f.b) = false ∧ f.w.length ≤ 7 ∧ 1 ≤ k ∧ k ≤ 9 := by
  rcases fmS_cases k with ⟨-, h1⟩ | ⟨rfl, h1⟩ | ⟨rfl, h1⟩ | ⟨rfl, h1⟩ | ⟨rfl, h1⟩ | ⟨rfl, h1⟩ | ⟨rfl, h1⟩ | ⟨rfl, h1⟩ | ⟨rfl, h1⟩ | ⟨rfl, h1⟩ <;> rw [h1] at h <;> cases h <;> decide
theorem fm_inj (j k : Int) (f g : Fm) (hj : fmS j = some f) (hk : fmS k = some g) (h : f.w = g.w) : j = k := by
  rcases fmS_cases j with ⟨-, h1⟩ | ⟨rfl, h1⟩ | ⟨rfl, h1⟩ | ⟨rfl, h1⟩ | ⟨rfl, h1⟩ | ⟨rfl, h1⟩ | ⟨rfl, h1⟩ | ⟨rfl, h1⟩ | ⟨rfl, h1⟩ | ⟨rfl, h1⟩ <;> rw [h1] at hj <;> cases hj <;>
  (rcases fmS_cases k with ⟨-, h2⟩ | ⟨rfl, h2⟩ | ⟨rfl, h2⟩ | ⟨rfl, h2⟩ | ⟨rfl, h2⟩ | ⟨rfl, h2⟩ | ⟨rfl, h2⟩ | ⟨rfl, h2⟩ | ⟨rfl, h2⟩ | ⟨rfl, h2⟩ <;> rw [h2] at hk <;> cases hk <;> first | rfl | exact absurd h (by decide))
theorem ksL_cons {k : Nat} (h : k < 10) : ksL k = (k : Int) :: ksL (k + 1) := by
  unfold ksL
  rw [show 10 - k = (10 - (k + 1)) + 1 by omega, List.range'_succ, List.map_cons]
theorem ksL_end {k : Nat} (h : 10 ≤ k) : ksL k = [] := by
  unfold ksL
  rw [show 10 - k = 0 by omega]; rfl
theorem mem_ksL {k : Int} (h : 1 ≤ k ∧ k ≤ 9) : k ∈ ksL 1 := by
  unfold ksL
  simp only [List.mem_map, List.mem_range'_1]
  exact ⟨k.toNat, by omega, by omega⟩
theorem find_one {α : Type} {g : Int → Option α} {k : Int} {x : α} : ∀ {l : List Int}, k ∈ l → g k = some x → (∀ j ∈ l, j ≠ k → g j = none) → l.findSome? g = some x
  | [], h, _, _ => by cases h
  | j :: l, h, hx, hn => by
    rw [List.findSome?_cons]
    by_cases hj : j = k
    · subst hj; rw [hx]
    · rw [hn j (List.mem_cons_self ..) hj]
      rcases List.mem_cons.1 h with rfl | h
      · exact (hj rfl).elim
      · exact find_one h hx fun i hi => hn i (List.mem_cons_of_mem _ hi)
def wsF (f : Fm) (e : Ey) : List (List UInt8) := (if f.a then [Lib.itoa e.a] else []) ++ (if f.n then [Lib.itoa e.n] else []) ++ (if f.b then [e.b.flatMap hxB] else [])
theorem itoa_no' (n : Int) : 32 ∉ Lib.itoa n ∧ 10 ∉ Lib.itoa n := ⟨itoa_no (by decide), itoa_no (by decide)⟩
theorem cut_ln {k : Int} {f : Fm} {e : Ey} (hf : fmS k = some f) (hb : f.b = false → e.b = []) : cutL 32 (lnF f e) = f.w :: wsF f e := by
  obtain ⟨h1, -, -, h4, -⟩ := fm_no k f hf
  have ha := (itoa_no' e.a).1
  have hn := (itoa_no' e.n).1
  have hx := (hx_no e.b).1
  unfold lnF wsF numF
  cases hfa : f.a <;> cases hfn : f.n <;> cases hfb : f.b <;> simp only [hfn, hfb] at h4 <;> first | (cases h4; done) | skip
  all_goals
    first
    | rw [hb hfb]
    | skip
    simp only [List.append_nil, List.nil_append, List.flatMap_nil, if_true, if_false, Bool.false_eq_true, List.append_assoc, List.cons_append, List.singleton_append]
    first
    | rw [cutL_none h1]
    | (rw [cutL_app _ h1]; first | rw [cutL_none ha] | rw [cutL_none hn] | rw [cutL_none hx] | (rw [cutL_app _ ha]; first | rw [cutL_none hn] | rw [cutL_none hx]))
theorem mayF_iff {f : Fm} {e : Ey} : mayF f e = true ↔ (0 ≤ e.a ∧ e.a ≤ 2147483647 ∧ (f.a = true ∨ e.a ≤ 0) ∧ (f.n = true ∨ e.n = 0) ∧ (f.b = true ↔ 0 < e.b.length) ∧ e.b.length ≤ 65536 ∧ (f.n = false ∨ (f.l ≤ e.n ∧ (f.l < 0 ∨ e.n ≤ 2147483647)))) := by
  simp only [mayF, Bool.and_eq_true, Bool.not_eq_true', Bool.or_eq_true, ltZ_eq, eqZ_eq, decide_eq_true_eq, decide_eq_false_iff_not, beq_iff_eq]
  have hb : f.b = decide ((0 : Int) < (e.b.length : Nat)) ↔ (f.b = true ↔ 0 < e.b.length) := by
    rw [Bool.eq_iff_iff, decide_eq_true_eq]
    constructor <;> intro h <;> rw [h] <;> omega
  rw [hb]
  constructor
  · rintro ⟨⟨⟨⟨⟨⟨h1, h2⟩, h3⟩, h4⟩, h5⟩, h6⟩, h7⟩
    exact ⟨by omega, by omega, h3.imp id fun h => by omega, h4, h5, by omega, h7.imp id fun h => ⟨by omega, h.2.imp id fun h => by omega⟩⟩
  · rintro ⟨h1, h2, h3, h4, h5, h6, h7⟩
    exact ⟨⟨⟨⟨⟨⟨by omega, by omega⟩, h3.imp id fun h => by omega⟩, h4⟩, h5⟩, by omega⟩, h7.imp id fun h => ⟨by omega, h.2.imp id fun h => by omega⟩⟩
theorem may_b {f : Fm} {e : Ey} (h : mayF f e = true) : (f.b = false → e.b = []) ∧ (f.a = false → e.a = 0) ∧ (f.n = false → e.n = 0) := by
  simp only [mayF, Bool.and_eq_true, Bool.not_eq_true', Bool.or_eq_true, beq_iff_eq, ltZ_eq, eqZ_eq, decide_eq_true_eq, beq_iff_eq, decide_eq_false_iff_not] at h
  obtain ⟨⟨⟨⟨⟨⟨h1, h2⟩, h3⟩, h4⟩, h5⟩, h6⟩, h7⟩ := h
  refine ⟨fun hb => ?_, fun ha => ?_, fun hn => ?_⟩
  · rw [hb] at h5
    have := decide_eq_false_iff_not.1 h5.symm
    exact List.length_eq_zero_iff.1 (by omega)
  · rw [ha] at h3
    rcases h3 with h3 | h3
    · cases h3
    · omega
  · rw [hn] at h4
    rcases h4 with h4 | h4
    · cases h4
    · exact h4
theorem ey_eq {e : Ey} {k a n : Int} {b : List UInt8} (h1 : e.k = k) (h2 : a = e.a) (h3 : n = e.n) (h4 : b = e.b) : (⟨k, a, n, b⟩ : Ey) = e := by
  subst h1 h2 h3 h4; rfl
theorem prC_ln {f : Fm} {e : Ey} (hf : fmS e.k = some f) (he : EyOk e) (hm : mayF f e = true) : prC f e.k (f.w :: wsF f e) = e := by
  obtain ⟨hb, ha, hn⟩ := may_b hm
  obtain ⟨-, -, -, h4, -⟩ := fm_no _ f hf
  unfold prC restC wsF
  refine ey_eq rfl ?_ ?_ ?_ <;> cases hfa : f.a <;> cases hfn : f.n <;> cases hfb : f.b <;> simp only [hfn, hfb] at h4 <;> first | (cases h4; done) | skip
  all_goals simp [atoiV_itoa he.2.1, parseV_itoa he.2.2, hxP_B, hb, ha, hn, hfa, hfn, hfb]
theorem prR_ln {f : Fm} {e : Ey} (hf : fmS e.k = some f) (he : EyOk e) (hm : mayF f e = true) : prR e.k (whF f) (wsF f e) = e := by
  obtain ⟨hb, ha, hn⟩ := may_b hm
  obtain ⟨-, -, -, h4, -⟩ := fm_no _ f hf
  unfold prR whF wsF
  cases hfa : f.a <;> cases hfn : f.n <;> cases hfb : f.b <;> simp only [hfn, hfb] at h4 <;> first | (cases h4; done) | skip
  all_goals
    simp [stR, valR_itoa he.2.1, valR_itoa he.2.2, hxR_B]
    exact ey_eq rfl (by simp [ha, hfa]) (by simp [hn, hfn]) (by simp [hb, hfb])
theorem wsF_len (f : Fm) (e : Ey) : (wsF f e).length = (whF f).length := by
  unfold wsF whF
  cases f.a <;> cases f.n <;> cases f.b <;> rfl
theorem mayS_some {e : Ey} (h : mayS e = true) : ∃ f, fmS e.k = some f ∧ mayF f e = true := by
  unfold mayS at h
  split at h
  · cases h
  · rename_i f hf; exact ⟨f, hf, h⟩
theorem mayS_of {e : Ey} {f : Fm} (hf : fmS e.k = some f) : mayS e = mayF f e := by unfold mayS; rw [hf]
theorem lnS_of {e : Ey} {f : Fm} (hf : fmS e.k = some f) : lnS e = lnF f e := by unfold lnS; rw [hf]
theorem rdC_of {e : Ey} (he : EyOk e) (hm : mayS e = true) : rdC (lnS e) = some e := by
  obtain ⟨f, hf, hmf⟩ := mayS_some hm
  have hfn := fm_no _ f hf
  rw [lnS_of hf]
  have hc := cut_ln (e := e) hf (may_b hmf).1
  unfold rdC
  rw [hc]
  refine find_one (k := e.k) (mem_ksL ⟨hfn.2.2.2.2.2.1, hfn.2.2.2.2.2.2⟩) ?_ fun j _ hj => ?_
  · unfold rdK
    rw [hf]
    simp only [prC_ln hf he hmf]
    rw [if_pos ⟨by simp, hmf, by simp⟩]
  · unfold rdK
    cases hg : fmS j with
    | none => rfl
    | some g =>
      simp only
      rw [if_neg fun h => hj (fm_inj j e.k g f hg hf (by simpa using h.1))]
theorem rdR_of {e : Ey} (he : EyOk e) (hm : mayS e = true) : rdR (lnS e) = some e := by
  obtain ⟨f, hf, hmf⟩ := mayS_some hm
  have hfn := fm_no _ f hf
  rw [lnS_of hf]
  have hc := cut_ln (e := e) hf (may_b hmf).1
  unfold rdR
  rw [hc]
  rw [find_one (k := e.k) (x := some e) (mem_ksL ⟨hfn.2.2.2.2.2.1, hfn.2.2.2.2.2.2⟩) ?_ fun j _ hj => ?_]
  · rfl
  · unfold rdRk okR
    rw [hf]
    simp only [List.headD_cons, List.length_cons, wsF_len]
    rw [if_pos ⟨by simp, by omega⟩]
    simp only [List.tail_cons, prR_ln hf he hmf]
    rw [if_pos ⟨hm, lnS_of hf⟩]
  · unfold rdRk okR
    cases hg : fmS j with
    | none => rfl
    | some g =>
      simp only
      rw [if_neg fun h => hj (fm_inj j e.k g f hg hf (by simpa using h.1))]
theorem prC_ok {f : Fm} {k : Int} (hk : 1 ≤ k ∧ k ≤ 9) (ws : List (List UInt8)) : EyOk (prC f k ws) := by
  have h0 : i64 0 := by unfold i64; omega
  refine ⟨?_, ?_, ?_⟩
  · unfold i64 prC; simp only; omega
  · unfold prC; simp only; split
    · exact atoiV_i64 _
    · exact h0
  · unfold prC; simp only; split
    · exact parseV_i64 _
    · exact h0
theorem rdC_some {S : List UInt8} {e : Ey} (h : rdC S = some e) : EyOk e ∧ mayS e = true ∧ lnS e = S := by
  unfold rdC at h
  obtain ⟨k, hk, hx⟩ := List.exists_of_findSome?_eq_some h
  unfold rdK at hx
  cases hf : fmS k with
  | none => rw [hf] at hx; cases hx
  | some f =>
    rw [hf] at hx
    simp only at hx
    split at hx
    · rename_i hc
      cases hx
      have hfn := fm_no _ f hf
      have hk' : (prC f k (cutL 32 S)).k = k := rfl
      exact ⟨prC_ok ⟨hfn.2.2.2.2.2.1, hfn.2.2.2.2.2.2⟩ _, (mayS_of (hk'.symm ▸ hf)).trans hc.2.1, (lnS_of (hk'.symm ▸ hf)).trans hc.2.2⟩
    · cases hx
theorem stR_ok {e : Ey} (h : EyOk e) (c : UInt8) (x : List UInt8) : EyOk (stR e c x) := by
  unfold stR; split
  · exact ⟨h.1, valR_i64 _, h.2.2⟩
  · split
    · exact ⟨h.1, h.2.1, valR_i64 _⟩
    · exact ⟨h.1, h.2.1, h.2.2⟩
theorem foR_ok : ∀ (l : List (UInt8 × List UInt8)) (e : Ey), EyOk e → EyOk (l.foldl (fun e p => stR e p.1 p.2) e)
  | [], e, h => h
  | p :: l, e, h => foR_ok l _ (stR_ok h _ _)
theorem rdR_some {S : List UInt8} {e : Ey} (h : rdR S = some e) : EyOk e ∧ mayS e = true ∧ lnS e = S := by
  unfold rdR at h
  cases hfs : (ksL 1).findSome? (rdRk S (cutL 32 S)) with
  | none => rw [hfs] at h; cases h
  | some o =>
    rw [hfs] at h
    simp only [Option.getD_some] at h
    subst h
    obtain ⟨k, hk, hx⟩ := List.exists_of_findSome?_eq_some hfs
    unfold rdRk at hx
    cases ho : okR (cutL 32 S) k with
    | none => rw [ho] at hx; cases hx
    | some f =>
      rw [ho] at hx
      simp only [Option.some.injEq] at hx
      split at hx
      · rename_i hc
        simp only [Option.some.injEq] at hx
        rw [hx] at hc
        refine ⟨?_, hc⟩
        rw [← hx]
        refine foR_ok _ _ ⟨?_, ?_, ?_⟩
        · unfold okR at ho
          cases hf : fmS k with
          | none => rw [hf] at ho; cases ho
          | some g =>
            have := fm_no _ g hf
            unfold i64; simp only; omega
        · unfold i64; simp only; omega
        · unfold i64; simp only; omega
      · cases hx
theorem rd_same (S : List UInt8) : rdR S = rdC S := by
  cases h : rdC S with
  | some e =>
    obtain ⟨h1, h2, rfl⟩ := rdC_some h
    exact rdR_of h1 h2
  | none =>
    cases h' : rdR S with
    | none => rfl
    | some e =>
      obtain ⟨h1, h2, rfl⟩ := rdR_some h'
      rw [rdC_of h1 h2] at h; cases h
/-! scripts -/
def ofL : List (List UInt8) → Option (List Ey)
  | [] => none
  | l :: ls => if ls = [] then (if l = [] then some [] else none) else match rdC l with
    | none => none
    | some e => (ofL ls).map (e :: ·)
def ofS (S : List UInt8) : Option (List Ey) := ofL (cutL 10 S)
theorem lnS_no {e : Ey} (h : mayS e = true) : 10 ∉ lnS e := by
  obtain ⟨f, hf, hmf⟩ := mayS_some h
  rw [lnS_of hf]
  have h1 := (fm_no _ f hf).2.1
  have h2 := (itoa_no' e.a).2
  have h3 := (itoa_no' e.n).2
  have h4 := (hx_no e.b).2
  unfold lnF numF
  intro h
  simp only [List.mem_append] at h
  rcases h with (((h | h) | h) | h) | h
  · exact h1 h
  · split at h
    · rcases List.mem_cons.1 h with h | h
      · cases h
      · exact h2 h
    · cases h
  · split at h
    · rcases List.mem_cons.1 h with h | h
      · cases h
      · exact h3 h
    · cases h
  · split at h
    · simp at h
    · cases h
  · exact h4 h
theorem cut_lines (rest : List UInt8) : ∀ (ls : List (List UInt8)), (∀ l ∈ ls, 10 ∉ l) → cutL 10 (ls.flatMap (· ++ [10]) ++ rest) = ls ++ cutL 10 rest
  | [], _ => rfl
  | l :: ls, h => by
    rw [List.flatMap_cons, List.append_assoc, List.append_assoc, List.singleton_append, cutL_app _ (h l (List.mem_cons_self ..)), cut_lines rest ls fun x hx => h x (List.mem_cons_of_mem _ hx)]
    rfl
theorem txL_cut {l : List Ey} (h : ∀ e ∈ l, mayS e = true) : cutL 10 (txL l) = l.map lnS ++ [[]] := by
  have := cut_lines [] (l.map lnS) fun x hx => by
    obtain ⟨e, he, rfl⟩ := List.mem_map.1 hx
    exact lnS_no (h e he)
  rw [List.append_nil, List.flatMap_map] at this
  exact this
theorem ofL_map : ∀ {l : List Ey}, (∀ e ∈ l, EyOk e ∧ mayS e = true) → ofL (l.map lnS ++ [[]]) = some l
  | [], _ => rfl
  | e :: l, h => by
    have ih := ofL_map (l := l) fun x hx => h x (List.mem_cons_of_mem _ hx)
    have he := h e (List.mem_cons_self ..)
    show ofL (lnS e :: (l.map lnS ++ [[]])) = _
    unfold ofL
    rw [if_neg (by simp), rdC_of he.1 he.2, ih]
    rfl
theorem ofS_tx {l : List Ey} (h : ∀ e ∈ l, EyOk e ∧ mayS e = true) : ofS (txL l) = some l := by
  unfold ofS
  rw [txL_cut fun e he => (h e he).2, ofL_map h]
theorem cut_join (c : UInt8) : ∀ (S : List UInt8) {o : List (List UInt8)} {t : List UInt8}, cutL c S = o ++ [t] → S = o.flatMap (· ++ [c]) ++ t
  | [], o, t, h => by
    rw [cutL] at h
    cases o with
    | nil => simp at h; simp [h]
    | cons a o => simp at h
  | b :: r, o, t, h => by
    rw [cutL] at h
    split at h
    · rename_i hb
      cases o with
      | nil => simp at h; exact (cutL_ne c r h.2).elim
      | cons a o =>
        simp only [List.cons_append, List.cons.injEq] at h
        obtain ⟨rfl, h⟩ := h
        rw [cut_join c r h, hb]; simp
    · cases hc : cutL c r with
      | nil => exact (cutL_ne c r hc).elim
      | cons a s =>
        rw [hc] at h
        simp only at h
        cases o with
        | nil =>
          simp only [List.nil_append, List.cons.injEq] at h
          obtain ⟨rfl, rfl⟩ := h
          have := cut_join c r (o := []) (t := a) hc
          rw [this]; rfl
        | cons a' o =>
          simp only [List.cons_append, List.cons.injEq] at h
          obtain ⟨rfl, h⟩ := h
          have := cut_join c r (o := a :: o) (t := t) (by rw [hc, h]; rfl)
          rw [this]; simp
theorem ofL_some : ∀ {ls : List (List UInt8)} {w : List Ey}, ofL ls = some w → (∀ e ∈ w, EyOk e ∧ mayS e = true) ∧ ls = w.map lnS ++ [[]]
  | [], w, h => by cases h
  | l :: ls, w, h => by
    unfold ofL at h
    split at h
    · rename_i h1
      split at h
      · rename_i h2
        cases h
        subst h1; subst h2
        exact ⟨fun e he => (by cases he), rfl⟩
      · cases h
    · split at h
      · cases h
      · rename_i e he
        obtain ⟨w', hw, rfl⟩ := Option.map_eq_some_iff.1 h
        obtain ⟨h1, h2⟩ := ofL_some hw
        obtain ⟨a1, a2, a3⟩ := rdC_some he
        refine ⟨fun x hx => ?_, by rw [h2, ← a3]; rfl⟩
        rcases List.mem_cons.1 hx with rfl | hx
        · exact ⟨a1, a2⟩
        · exact h1 x hx
theorem ofS_some {S : List UInt8} {w : List Ey} (h : ofS S = some w) : (∀ e ∈ w, EyOk e ∧ mayS e = true) ∧ txS w = S := by
  obtain ⟨h1, h2⟩ := ofL_some h
  refine ⟨h1, ?_⟩
  have h3 := cut_join 10 S h2
  unfold txS
  rw [if_pos (List.all_eq_true.2 fun e he => (h1 e he).2), h3, List.append_nil, List.flatMap_map]
  rfl
end Go.Proofs.YtbcapobkbgckbaaGreatDoor
