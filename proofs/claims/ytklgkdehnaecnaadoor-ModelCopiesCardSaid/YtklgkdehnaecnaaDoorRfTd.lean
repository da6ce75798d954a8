/-
  Objects that lie one behind the other; rows in them, read as rows that are never written, or told by their shape.
-/
import Derived.Test.YtklgkdehnaecnaaDoorRfTc
set_option linter.all false
set_option linter.unusedSimpArgs false
namespace Rf
open Go

def Hold (s : St) (d : Nat) (os : List O) : Prop := ∀ j o, os[j]? = some o → s.get (d + j) = some o
section
variable {s : St} {d : Nat}
theorem Hold.app {a b : List O} (h : Hold s d (a ++ b)) : Hold s d a ∧ Hold s (d + a.length) b := by
  refine ⟨fun j o hj => h j o ?_, fun j o hj => ?_⟩
  · rw [List.getElem?_append_left (List.getElem?_eq_some_iff.1 hj).1]; exact hj
  · rw [Nat.add_assoc]
    refine h _ o ?_
    rw [List.getElem?_append_right (Nat.le_add_right ..), Nat.add_sub_cancel_left]; exact hj
theorem Hold.cons {a : O} {b : List O} (h : Hold s d (a :: b)) : s.get d = some a ∧ Hold s (d + 1) b := by
  refine ⟨h 0 a rfl, fun j o hj => ?_⟩
  rw [Nat.add_assoc, Nat.add_comm 1 j]
  exact h (j + 1) o hj
theorem Is.hold {a os b : List O} (h : Is s (a ++ os ++ b)) : Hold s a.length os := fun j o hj => by
  have hlt := (List.getElem?_eq_some_iff.1 hj).1
  rw [h.o, List.append_assoc, List.getElem?_append_right (Nat.le_add_right ..), Nat.add_sub_cancel_left, List.getElem?_append_left hlt]
  exact hj
theorem Is.hold0 {os : List O} (h : Is s os) : Hold s 0 os := fun j o hj => by rw [Nat.zero_add, h.o]; exact hj
theorem Hold.le {s' : St} {os : List O} (h : Hold s d os) (hs : Le s s') : Hold s' d os := fun j o hj => hs _ _ (h j o hj)

/-- an object that is made and written whole -/
theorem new_put {os : List O} (hI : Is s os) (o o' : O) : Is ((s.new o).put s.n (some o')) (os ++ [o']) ∧ Le s ((s.new o).put s.n (some o')) ∧ ((s.new o).put s.n (some o')).get s.n = some o' ∧ ((s.new o).put s.n (some o')).n = s.n + 1 := by
  refine ⟨((hI.new o).put (St.get_new_same _ _)).eq ?_, fun l x h => ?_, St.get_put_same _ _ _, rfl⟩
  · rw [hI.n]; simp
  · have hne : l ≠ s.n := Nat.ne_of_lt (hI.good.1 l x h).1
    rw [St.get_put_ne _ _ _ _ hne, St.get_new_ne _ _ _ hne]; exact h

/-- slots forgotten on the way -/
theorem HC.fgt {gt : Nat → Option V} {P : Program} {c : C} {e : List V} {Q : X → List V → St → Prop} (hgt : GNm gt) (ks : List Nat) (h : Rf.Good s → HC gt P c (fg ks e) s Q) : HC gt P c e s Q :=
  ⟨fun wf => Cf.good fun hg => Cf.pre hgt (Wk.fg hg.1 hg.2) ((h hg).out wf)⟩

/-- a row that is appended to nil -/
theorem app_new {e : List V} {x y : Arg} {t sz bytes n : Nat} {ag : Bool} {cs : List V} (hg : Rf.Good s) (hx : x.ev e = .ns) (hy : srcOf s sz (y.ev e) = some (n, cs)) (hr : room n bytes = true) {Q : V → St → Prop}
    (k : ∀ v s', Vw1 v (.pu sz (chunks ag sz cs n) .u) → Le s s' → Rf.Good s' → Q v s') : ∃ v s', aop e s (.app t true ag sz bytes x y) = some (v, s') ∧ Q v s' := by
  obtain ⟨v, s', o', h1, h2, h3, h4, -, h5⟩ := Acc.app (t := t) (bytes := bytes) (ag := ag) (x := x) hg (show Acc s sz (x.ev e) [] none from ⟨hx, rfl⟩) hy (by simpa using hr)
  refine ⟨v, s', h1, k v s' (by simpa using h2.vw) (fun l o hl => ?_) h3⟩
  have hlt := (hg.1 l o hl).1
  rw [h5 l (fun e => ?_) hlt]; exact hl
  rcases h4 with h4 | ⟨-, h4⟩
  · rw [h4] at e; cases e
  · rw [h4] at e; cases e; omega

/-- cells of elements laid out -/
theorem flatg {sz : Nat} : ∀ (xs : List V) (i j : Nat) (x : V), (∀ y ∈ xs, y.cells.length = sz) → xs[i]? = some x → j < sz → ((xs.map V.cells).flatten)[i * sz + j]? = x.cells[j]?
  | [], i, j, x, _, h, _ => by simp at h
  | y :: r, 0, j, x, hl, h, hj => by
    cases h
    simp only [List.map_cons, List.flatten_cons, Nat.zero_mul, Nat.zero_add]
    rw [List.getElem?_append_left (by rw [hl _ (List.mem_cons_self ..)]; exact hj)]
  | y :: r, i + 1, j, x, hl, h, hj => by
    simp only [List.map_cons, List.flatten_cons]
    rw [List.getElem?_append_right (by rw [hl _ (List.mem_cons_self ..), Nat.succ_mul]; omega), hl _ (List.mem_cons_self ..), Nat.succ_mul]
    have := flatg r i j x (fun z hz => hl z (List.mem_cons_of_mem _ hz)) (by simpa using h) hj
    rw [← this]
    congr 1
    omega
theorem flatl {sz : Nat} : ∀ (xs : List V), (∀ y ∈ xs, y.cells.length = sz) → ((xs.map V.cells).flatten).length = xs.length * sz
  | [], _ => by simp
  | y :: r, hl => by
    simp only [List.map_cons, List.flatten_cons, List.length_append, List.length_cons]
    rw [flatl r (fun z hz => hl z (List.mem_cons_of_mem _ hz)), hl _ (List.mem_cons_self ..), Nat.succ_mul]; omega

/-- a row in an object, its cells read one by one -/
theorem rd_row {sz l z : Nat} {cs xs : List V} {t : Option Nat} (hg : s.get l = some (.c cs z t)) (hlen : cs.length = xs.length * sz) (hs : ∀ y ∈ xs, y.cells.length = sz)
    (h : ∀ i j x, xs[i]? = some x → j < sz → ∃ c y, cs[i * sz + j]? = some c ∧ x.cells[j]? = some y ∧ Rd s c y) : Rd s (.sl sz l 0 xs.length none) (.pu sz xs .u) := by
  refine .sl sz l 0 xs.length none cs z t xs hg (by omega) rfl (fun i hi => ?_) (fun i j hi hj => ?_)
  · rw [List.getD, List.getElem?_eq_getElem hi]; exact hs _ (List.getElem_mem hi)
  · obtain ⟨c, y, h1, h2, h3⟩ := h i j xs[i] (List.getElem?_eq_getElem hi) hj
    have e1 : cs.getD (0 + i * sz + j) .bad = c := by rw [Nat.zero_add, List.getD, h1]; rfl
    have e2 : (xs.getD i .bad).cells.getD j .bad = y := by
      have : xs.getD i .bad = xs[i] := by rw [List.getD, List.getElem?_eq_getElem hi]; rfl
      rw [this, List.getD, h2]; rfl
    rw [e1, e2]; exact h3
theorem rd_flat {sz l z n : Nat} {xs : List V} {t : Option Nat} (hg : s.get l = some (.c ((xs.map V.cells).flatten) z t)) (hn : n = xs.length) (hs : ∀ y ∈ xs, y.cells.length = sz) : Rd s (.sl sz l 0 n none) (.pu sz xs .u) := by
  subst hn
  refine rd_row hg (flatl xs hs) hs (fun i j x hx hj => ?_)
  have hl : j < x.cells.length := by rw [hs x (List.mem_of_getElem? hx)]; exact hj
  exact ⟨x.cells[j], x.cells[j], by rw [flatg xs i j x hs hx hj]; simp [hl], by simp [hl], .refl _⟩
theorem lay_flat {sz l n : Nat} {xs : List V} {t : Option Nat} {Q : Nat → V → Prop} (hg : s.get l = some (.c ((xs.map V.cells).flatten) 0 t)) (hn : n = xs.length) (hs : ∀ y ∈ xs, y.cells.length = sz) (hq : ∀ y ∈ xs, ∀ j c, y.cells[j]? = some c → Q j c) : Lay s sz (.sl sz l 0 n none) n Q := by
  subst hn
  refine .inr ⟨l, _, t, rfl, hg, flatl xs hs, fun i j hi hj => ?_⟩
  have hx : xs[i]? = some xs[i] := List.getElem?_eq_getElem hi
  have hl : j < (xs[i]).cells.length := by rw [hs _ (List.getElem_mem hi)]; exact hj
  exact ⟨(xs[i]).cells[j], by rw [flatg xs i j _ hs hx hj]; simp [hl], hq _ (List.getElem_mem hi) j _ (by simp [hl])⟩
end
end Rf
