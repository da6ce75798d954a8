/-
  A map that is written and looked up, told as a list of keys with what stands there. No statement stands here.
-/
import Derived.Test.YtbcapobkbgckbaaGreatDoorLF
import Derived.Test.YtbcapobkbgckbaaGreatDoorTplain
set_option linter.all false
namespace Rf
open Go TallyP
section
variable {K S : Type} [DecidableEq K]

def mEs (kE : K → V) (sE : S → V) : List (K × S) → Nat → List (V × V × Nat)
  | [], _ => []
  | (k, s) :: r, b => (kE k, sE s, b) :: mEs kE sE r (b + 1)
structure KEnc (kk : KK) (kE : K → V) : Prop where
  ok : ∀ k, kOk kk (kE k) = true
  eq : ∀ a b, keq kk (kE a) (kE b) = some (decide (a = b))
variable {kk : KK} {kE : K → V} {sE : S → V}
theorem findK_none (E : KEnc kk kE) {k : K} : ∀ {l : List (K × S)} {b i : Nat}, lkk k l = none → findK kk (kE k) (mEs kE sE l b) i = some none
  | [], _, _, _ => rfl
  | (a, s) :: r, b, i, h => by
    have hne : ¬ a = k := fun e => by rw [lkk, if_pos e] at h; cases h
    rw [lkk, if_neg hne] at h
    simp only [mEs, findK, E.eq]
    rw [decide_eq_false (fun e => hne e.symm)]
    exact findK_none E h
theorem findK_some (E : KEnc kk kE) {k : K} {s : S} : ∀ {l : List (K × S)} {b i : Nat}, lkk k l = some s → ∃ j, findK kk (kE k) (mEs kE sE l b) i = some (some (i + j, sE s)) ∧ ∀ f, setVal (mEs kE sE l b) j (kE k) (sE (f (some s))) = mEs kE sE (updM f k l) b
  | [], _, _, h => by cases h
  | (a, t) :: r, b, i, h => by
    by_cases e : a = k
    · subst e
      rw [lkk, if_pos rfl] at h
      cases h
      refine ⟨0, ?_, fun f => ?_⟩
      · simp [mEs, findK, E.eq]
      · simp [mEs, setVal, updM]
    · rw [lkk, if_neg e] at h
      obtain ⟨j, h1, h2⟩ := findK_some E (b := b + 1) (i := i + 1) h
      refine ⟨j + 1, ?_, fun f => ?_⟩
      · simp only [mEs, findK, E.eq]
        rw [decide_eq_false (fun x => e x.symm)]
        rw [show i + (j + 1) = i + 1 + j by omega]
        exact h1
      · simp only [mEs, setVal, updM, if_neg e, h2]
theorem mEs_new {f : Option S → S} {k : K} : ∀ {l : List (K × S)} {b : Nat}, lkk k l = none → mEs kE sE l b ++ [(kE k, sE (f none), b + l.length)] = mEs kE sE (updM f k l) b
  | [], _, _ => rfl
  | (a, s) :: r, b, h => by
    have hne : ¬ a = k := fun e => by rw [lkk, if_pos e] at h; cases h
    rw [lkk, if_neg hne] at h
    rw [updM, if_neg hne]
    have := mEs_new (f := f) (k := k) (l := r) (b := b + 1) h
    simp only [mEs, List.cons_append, List.length_cons]
    rw [← this, show b + (r.length + 1) = b + 1 + r.length by omega]
theorem mop_look1 (E : KEnc kk kE) {s : St} {M clk : Nat} {l : List (K × S)} {k : K} {z : V} (hg : s.get M = some (.x (.mp (mEs kE sE l 0) clk))) : mop s (.look kk true z) [.m M, kE k] = some ((match lkk k l with
    | some v => .tu [sE v, .b true]
    | none => .tu [z, .b false]), s) := by
  simp only [mop, E.ok, hg]
  cases h : lkk k l with
  | none => rw [findK_none E h]; rfl
  | some v =>
    obtain ⟨j, h1, -⟩ := findK_some (sE := sE) (b := 0) (i := 0) E h
    rw [h1]; rfl
theorem mop_look0 (E : KEnc kk kE) {s : St} {M clk : Nat} {l : List (K × S)} {k : K} {z : V} (hg : s.get M = some (.x (.mp (mEs kE sE l 0) clk))) : mop s (.look kk false z) [.m M, kE k] = some ((match lkk k l with
    | some v => sE v
    | none => z), s) := by
  simp only [mop, E.ok, hg]
  cases h : lkk k l with
  | none => rw [findK_none E h]; rfl
  | some v =>
    obtain ⟨j, h1, -⟩ := findK_some (sE := sE) (b := 0) (i := 0) E h
    rw [h1]; rfl
theorem updM_len {f : Option S → S} {k : K} {l : List (K × S)} : (updM f k l).length = if (lkk k l).isSome then l.length else l.length + 1 := by
  induction l with
  | nil => rfl
  | cons a r ih =>
    obtain ⟨a, s⟩ := a
    by_cases e : a = k
    · simp [updM, lkk, e]
    · simp only [updM, lkk, if_neg e, List.length_cons, ih]
      split <;> rfl
theorem mop_upd (E : KEnc kk kE) {s : St} {M : Nat} {l : List (K × S)} {k : K} {f : Option S → S} {v : V} (hg : s.get M = some (.x (.mp (mEs kE sE l 0) l.length))) (hv : v = sE (f (lkk k l))) : mop s (.upd kk) [.m M, kE k, v] = some (unV, s.put M (some (.x (.mp (mEs kE sE (updM f k l) 0) (updM f k l).length)))) := by
  subst hv
  simp only [mop, E.ok, hg]
  cases h : lkk k l with
  | none =>
    rw [findK_none E h]
    simp only [if_true]
    have := mEs_new (kE := kE) (sE := sE) (f := f) (b := 0) h
    rw [Nat.zero_add] at this
    rw [this, updM_len, h]; rfl
  | some t =>
    obtain ⟨j, h1, h2⟩ := findK_some (sE := sE) (b := 0) (i := 0) E h
    rw [h1]
    simp only [if_true, Nat.zero_add, h2]
    rw [updM_len, h]; rfl
theorem aym_look1 (E : KEnc kk kE) {s : St} {M clk : Nat} {l : List (K × S)} {k : K} {z : V} {e : List V} {a b : Arg} (hg : s.get M = some (.x (.mp (mEs kE sE l 0) clk))) (ha : a.ev e = .m M) (hb : b.ev e = kE k) : aop e s (.ym (.look kk true z) [a, b]) = some ((match lkk k l with
    | some v => .tu [sE v, .b true]
    | none => .tu [z, .b false]), s) := by
  simp only [aop, List.map_cons, List.map_nil, ha, hb]; exact mop_look1 E hg
theorem aym_look0 (E : KEnc kk kE) {s : St} {M clk : Nat} {l : List (K × S)} {k : K} {z : V} {e : List V} {a b : Arg} (hg : s.get M = some (.x (.mp (mEs kE sE l 0) clk))) (ha : a.ev e = .m M) (hb : b.ev e = kE k) : aop e s (.ym (.look kk false z) [a, b]) = some ((match lkk k l with
    | some v => sE v
    | none => z), s) := by
  simp only [aop, List.map_cons, List.map_nil, ha, hb]; exact mop_look0 E hg
theorem aym_upd (E : KEnc kk kE) {s : St} {M : Nat} {l : List (K × S)} {k : K} {f : Option S → S} {v : V} {e : List V} {a b c : Arg} (hg : s.get M = some (.x (.mp (mEs kE sE l 0) l.length))) (hv : v = sE (f (lkk k l))) (ha : a.ev e = .m M) (hb : b.ev e = kE k) (hc : c.ev e = v) :
    aop e s (.ym (.upd kk) [a, b, c]) = some (unV, s.put M (some (.x (.mp (mEs kE sE (updM f k l) 0) (updM f k l).length)))) := by
  simp only [aop, List.map_cons, List.map_nil, ha, hb, hc]; exact mop_upd E hg hv
end
theorem Kn.finM {s z : St} {L : List En} {u : V} {es : List (V × V × Nat)} {clk : Nat} (K : Kn s z L) (ht : Tidy s) (hx : NoX s) (h : Ke L (.ob true s.n (.x (.mp es clk)))) (hn : ∀ x ∈ es, Nm s.L x.1 ∧ Nm s.L x.2.1) (hv : Vw u (.m s.n)) (hL : L.all En.own = true := by rfl) :
    Vw u (.m s.n) ∧ (Good z → WkS s (s.new (.x (.mp es clk))) z ∧ ((s.new (.x (.mp es clk))).L = z.L ∨ Nm (s.new (.x (.mp es clk))).L (.m s.n))) := by
  have W := K.end ht hx hL
  have hw : ∀ {v : V}, Nm s.L v → Nm (s.new (.x (.mp es clk))).L v := fun h => h.mono fun _ h => St.new_L _ h
  refine ⟨hv, fun _ => ⟨⟨fun l o hl => ?_, fun l hl => Nat.lt_succ_of_lt (ht.1.2 l hl), fun l o hl => ?_, .inr fun l cs zz t hl c hc => ?_, .inr fun l o hl => ?_, .inr fun l hl => St.new_L _ hl⟩, .inr (.m _ (St.new_L0 _ ht.1.2))⟩⟩
  · by_cases e : l = s.n
    · subst e; rw [St.get_new_same] at hl; cases hl; exact K.get h
    · rw [St.get_new_ne _ _ _ e] at hl; exact W.g l o hl
  · by_cases e : l = s.n
    · subst e; exact St.new_L0 _ ht.1.2
    · rw [St.get_new_ne _ _ _ e] at hl; exact St.new_L _ (ht.1.1 l o hl)
  · by_cases e : l = s.n
    · subst e; rw [St.get_new_same] at hl; cases hl
    · rw [St.get_new_ne _ _ _ e] at hl; exact hw (ht.2 l cs zz t hl c hc)
  · by_cases e : l = s.n
    · subst e; rw [St.get_new_same] at hl; cases hl
      exact fun x hx => ⟨hw (hn x hx).1, hw (hn x hx).2⟩
    · rw [St.get_new_ne _ _ _ e] at hl; exact (hx l o hl).elim
section
variable {gt : Nat → Option V} {P : Program} {e : List V} {sb s : St} {d : Option Nat} {next : List V → St → Prop} {L : List En} {K S : Type} [DecidableEq K] {kk : KK} {kE : K → V} {sE : S → V}
end
end Rf
