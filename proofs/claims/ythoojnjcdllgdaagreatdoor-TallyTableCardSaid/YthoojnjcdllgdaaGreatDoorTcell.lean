/-
  Rows of cells, and insertion in a sorted row, plainly. No statement stands here.
-/
import Derived.Test.YthoojnjcdllgdaaGreatDoorLF
import Derived.Test.YthoojnjcdllgdaaGreatDoorTplain
set_option linter.all false
namespace TallyP
open Go Rf
section
variable {R : Type} {cs : R → List V} {w : Nat}
theorem cr_len (hw : ∀ x, (cs x).length = w) (l : List R) : (l.flatMap cs).length = l.length * w := by
  induction l with
  | nil => simp
  | cons x l ih => rw [List.flatMap_cons, List.length_append, ih, List.length_cons, Nat.succ_mul, hw]; omega
theorem cr_at (hw : ∀ x, (cs x).length = w) : ∀ (l : List R) (i j : Nat) (x : R), l[i]? = some x → j < w → (l.flatMap cs)[i * w + j]? = (cs x)[j]?
  | [], i, j, q, h, _ => by simp at h
  | a :: l, 0, j, q, h, hj => by
    cases (show a = q by simpa using h)
    rw [List.flatMap_cons, List.getElem?_append_left (by rw [hw]; omega), Nat.zero_mul, Nat.zero_add]
  | a :: l, i + 1, j, q, h, hj => by
    rw [List.flatMap_cons, List.getElem?_append_right (by rw [hw, Nat.succ_mul]; omega), show (i + 1) * w + j - (cs a).length = i * w + j by rw [hw, Nat.succ_mul]; omega]
    exact cr_at hw l i j q (by simpa using h) hj
theorem cr_take (hw : ∀ x, (cs x).length = w) (l : List R) (a : Nat) : (l.take a).flatMap cs = (l.flatMap cs).take (a * w) := by
  induction l generalizing a with
  | nil => simp
  | cons x l ih => cases a with
    | zero => simp
    | succ a =>
      simp only [List.take_succ_cons, List.flatMap_cons, ih]
      have h1 : (cs x).take ((a + 1) * w) = cs x := List.take_of_length_le (by rw [hw, Nat.succ_mul]; omega)
      rw [List.take_append, h1, hw, Nat.succ_mul, Nat.add_sub_cancel]
theorem cr_drop (hw : ∀ x, (cs x).length = w) (l : List R) (a : Nat) : (l.drop a).flatMap cs = (l.flatMap cs).drop (a * w) := by
  induction l generalizing a with
  | nil => simp
  | cons x l ih => cases a with
    | zero => simp
    | succ a =>
      simp only [List.drop_succ_cons, List.flatMap_cons, ih]
      have h1 : (cs x).drop ((a + 1) * w) = [] := List.drop_of_length_le (by rw [hw, Nat.succ_mul]; omega)
      rw [List.drop_append, h1, hw, Nat.succ_mul, Nat.add_sub_cancel, List.nil_append]
theorem setAt_right (a : List V) : ∀ (v b : List V) (j : Nat), setAt (a ++ b) (a.length + j) v = a ++ setAt b j v
  | [], b, j => rfl
  | x :: v, b, j => by
    show setAt ((a ++ b).set (a.length + j) x) (a.length + j + 1) v = a ++ setAt (b.set j x) (j + 1) v
    rw [List.set_append_right _ _ (by omega), Nat.add_sub_cancel_left, Nat.add_assoc, setAt_right a v]
theorem cr_set (hw : ∀ x, (cs x).length = w) {j : Nat} {v : List V} {x y : R} (hy : ∀ r, setAt (cs x ++ r) j v = cs y ++ r) : ∀ (l : List R) (a : Nat), l[a]? = some x → setAt (l.flatMap cs) (a * w + j) v = (l.set a y).flatMap cs
  | [], a, h => by simp at h
  | z :: l, 0, h => by
    cases (show z = x by simpa using h)
    rw [Nat.zero_mul, Nat.zero_add, List.flatMap_cons, hy]; rfl
  | z :: l, a + 1, h => by
    have ih := cr_set hw hy l a (by simpa using h)
    rw [List.set_cons_succ, List.flatMap_cons, List.flatMap_cons, ← ih, show (a + 1) * w + j = (cs z).length + (a * w + j) by rw [hw, Nat.succ_mul]; omega, setAt_right]
end
section
variable {K S : Type} [DecidableEq K] {lt : K → K → Bool}
def twG (lt : K → K → Bool) (k : K) (l : List (K × S)) : Nat := (l.takeWhile fun x => lt x.1 k).length
theorem twG_le (k : K) (l : List (K × S)) : twG lt k l ≤ l.length := List.Sublist.length_le (List.takeWhile_sublist _)
theorem twG_is {k : K} {l : List (K × S)} {b : Nat} (hb : b ≤ l.length) (h1 : ∀ x ∈ l.take b, lt x.1 k = true) (h2 : ∀ y, l[b]? = some y → lt y.1 k = false) : twG lt k l = b := by
  unfold twG
  rw [← List.take_append_drop b l, List.takeWhile_append_of_pos (fun x hx => by simpa using h1 x hx), List.length_append, List.length_take]
  have : (l.drop b).takeWhile (fun x => lt x.1 k) = [] := by
    cases hd : l.drop b with
    | nil => rfl
    | cons y r =>
      have hy : l[b]? = some y := by rw [← List.head?_drop, hd]; rfl
      rw [List.takeWhile_cons, if_neg (by rw [h2 y hy]; simp)]
  rw [this]
  simp; omega
def putG (l : List (K × S)) (a : Nat) (y : K × S) : List (K × S) := l.take a ++ y :: l.drop a
theorem putG_len {l : List (K × S)} {a : Nat} (ha : a ≤ l.length) (y : K × S) : (putG l a y).length = a + 1 + (l.length - a) := by simp [putG]; omega
theorem putG_at {l : List (K × S)} {a : Nat} (ha : a ≤ l.length) (y : K × S) : (putG l a y)[a]? = some y := by
  have h : (l.take a).length = a := by rw [List.length_take]; omega
  unfold putG
  rw [List.getElem?_append_right (by omega), h, Nat.sub_self]; rfl
theorem insG_hit (O : Ord lt) {f : Option S → S} {k : K} : ∀ {l : List (K × S)} {x : K × S}, l[twG lt k l]? = some x → x.1 = k → insR lt f k l = l.set (twG lt k l) (x.1, f (some x.2))
  | [], x, h, _ => by simp at h
  | y :: l, x, h, he => by
    obtain ⟨y1, y2⟩ := y
    by_cases hy : lt y1 k = true
    · have ht : twG lt k ((y1, y2) :: l) = twG lt k l + 1 := by simp [twG, List.takeWhile_cons, hy]
      rw [ht, List.getElem?_cons_succ] at h
      have ih := insG_hit O (f := f) h he
      rw [ht, insR, if_pos hy, ih]; rfl
    · have ht : twG lt k ((y1, y2) :: l) = 0 := by simp [twG, List.takeWhile_cons, hy]
      rw [ht, List.getElem?_cons_zero] at h
      cases h
      simp only at he
      subst he
      rw [ht, insR, if_neg hy, if_pos rfl]; rfl
theorem insG_new {f : Option S → S} {k : K} (y0 : K × S) : ∀ {l : List (K × S)}, (∀ y, l[twG lt k l]? = some y → y.1 ≠ k) → insR lt f k l = (putG l (twG lt k l) y0).set (twG lt k l) (k, f none)
  | [], _ => rfl
  | y :: l, h => by
    obtain ⟨y1, y2⟩ := y
    by_cases hy : lt y1 k = true
    · have ht : twG lt k ((y1, y2) :: l) = twG lt k l + 1 := by simp [twG, List.takeWhile_cons, hy]
      rw [ht] at h
      have ih := insG_new (f := f) y0 (l := l) (fun z hz => h z (by rw [List.getElem?_cons_succ]; exact hz))
      rw [ht, insR, if_pos hy, ih]; rfl
    · have ht : twG lt k ((y1, y2) :: l) = 0 := by simp [twG, List.takeWhile_cons, hy]
      rw [ht] at h
      have hne : ¬ y1 = k := fun e => h (y1, y2) rfl e
      rw [ht, insR, if_neg hy, if_neg hne]; rfl
theorem insG_len {f : Option S → S} {k : K} : ∀ l : List (K × S), 0 < (insR lt f k l).length ∧ (insR lt f k l).length ≤ l.length + 1
  | [] => by simp [insR]
  | y :: l => by
    have ih := insG_len (f := f) (k := k) l
    obtain ⟨y1, y2⟩ := y
    unfold insR
    split
    · simp only [List.length_cons]; omega
    · split <;> simp only [List.length_cons] <;> omega
end
theorem ltp_1 {a b : Int × Int} (h1 : ltZ a.1 b.1 = false) (h2 : eqZ a.1 b.1 = false) : ltP a b = false := by
  rw [ltZ_eq] at h1; rw [eqZ_eq] at h2
  simp [ltP] at *; omega
theorem ltp_2 {a b : Int × Int} (h1 : ltZ a.1 b.1 = false) (h3 : ltZ a.2 b.2 = false) : ltP a b = false := by
  rw [ltZ_eq] at h1 h3
  simp [ltP] at *; omega
theorem ltp_3 {a b : Int × Int} (h2 : eqZ a.1 b.1 = true) (h3 : ltZ a.2 b.2 = true) : ltP a b = true := by
  rw [eqZ_eq] at h2; rw [ltZ_eq] at h3
  simp [ltP] at *; omega
theorem ltp_4 {a b : Int × Int} (h1 : ltZ a.1 b.1 = true) : ltP a b = true := by
  rw [ltZ_eq] at h1
  simp [ltP] at *; omega
theorem eqp_f {a b : Int × Int} (h : a ≠ b) (h1 : eqZ a.1 b.1 = true) : eqZ a.2 b.2 = false := by
  rw [eqZ_eq] at *
  simp at *
  exact fun h2 => h (Prod.ext h1 h2)
def sT : C → C
  | .cond _ a _ => a
  | c => c
theorem kperm2 {s z : St} {a b : En} {L : List En} (K : Kn s z (a :: b :: L)) : Kn s z (b :: a :: L) :=
  have h : (a :: b :: L).Perm (b :: a :: L) := .swap _ _ _
  K.sub (fun e he => h.mem_iff.2 he) (fun e he _ => h.mem_iff.1 he) ((h.flatMap_right En.nm).nodup_iff.1 K.d)
theorem slG_to {e : List V} {s : St} {x y : Arg} {sz X n a : Nat} (hx : x.ev e = .sl sz X 0 n none) (hy : y.ev e = .i .i64 ((a : Nat) : Int)) (ha : a ≤ n) : aop e s (.slc sz x none (some y) none) = some (.sl sz X 0 a none, s) := by
  simp only [aop, hx, Option.map_some, Option.map_none, hy]
  delta slb
  simp [bnd_nat ha]
theorem slG_fr {e : List V} {s : St} {x y : Arg} {sz X n a : Nat} (hx : x.ev e = .sl sz X 0 n none) (hy : y.ev e = .i .i64 ((a : Nat) : Int)) (ha : a < n) : aop e s (.slc sz x (some y) none none) = some (.sl sz X (0 + a * sz) (n - a) none, s) := by
  simp only [aop, hx, Option.map_some, Option.map_none, hy]
  delta slb
  simp [bnd_nat (Nat.le_of_lt ha), ha]
theorem slG_en {e : List V} {s : St} {x y : Arg} {sz X n : Nat} {cs : List V} {t : Option Nat} (hx : x.ev e = .sl sz X 0 n none) (hy : y.ev e = .i .i64 ((n : Nat) : Int)) (hn : 0 < n) (h0 : 0 < sz) (hg : s.get X = some (.c cs 0 t)) (hl : cs.length = n * sz) : aop e s (.slc sz x (some y) none none) = some (.se sz X, s) := by
  simp only [aop, hx, Option.map_some, Option.map_none, hy]
  delta slb
  simp [bnd_nat (Nat.le_refl n), hg, hl]
  omega
theorem slGN_to {e : List V} {s : St} {x y : Arg} {sz : Nat} (hx : x.ev e = .ns) (hy : y.ev e = .i .i64 0) : aop e s (.slc sz x none (some y) none) = some (.ns, s) := by
  simp only [aop, hx, Option.map_some, Option.map_none, hy]
  delta slb
  simp [bnd]
theorem slGN_fr {e : List V} {s : St} {x y : Arg} {sz : Nat} (hx : x.ev e = .ns) (hy : y.ev e = .i .i64 0) : aop e s (.slc sz x (some y) none none) = some (.ns, s) := by
  simp only [aop, hx, Option.map_some, Option.map_none, hy]
  delta slb
  simp [bnd]
theorem apG_se {e : List V} {s : St} {x y : Arg} {sz X X' n t bytes : Nat} {ag : Bool} {cs : List V} {ty : Option Nat} (hg : s.get X = some (.c cs 0 ty)) (hx : x.ev e = .sl sz X 0 n none) (hy : y.ev e = .se sz X') : aop e s (.app t false ag sz bytes x y) = some (.sl sz X 0 n none, s) := by
  simp [aop, hx, hy, srcOf, appV, hg]
end TallyP
