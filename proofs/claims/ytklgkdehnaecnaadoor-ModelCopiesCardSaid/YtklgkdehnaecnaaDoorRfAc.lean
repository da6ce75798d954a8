/-
  Rows that grow in loops: what is appended to a row whose token is known, in any state.
-/
import Derived.Test.YtklgkdehnaecnaaDoorRfT
set_option linter.all false
set_option linter.unusedSimpArgs false
namespace Rf
open Go

/-- v is a row that may grow: nil, or a row whose end is told by the token o -/
def Acc (s : St) (sz : Nat) (v : V) (xs : List V) : Option Nat → Prop
  | none => v = .ns ∧ xs = []
  | some k => v = .pu sz xs (.t k) ∧ s.get k = some (.t (xs.length * sz))

theorem Acc.nil (s : St) (sz : Nat) : Acc s sz .ns [] none := ⟨rfl, rfl⟩
theorem Acc.vw {s : St} {sz : Nat} {v : V} {xs : List V} {o : Option Nat} (h : Acc s sz v xs o) : Vw1 v (.pu sz xs .u) := by
  cases o with
  | none => obtain ⟨rfl, rfl⟩ := h; exact .ns sz
  | some k => obtain ⟨rfl, -⟩ := h; exact .pu sz xs _
/-- another state, the same at the token -/
theorem Acc.keep {s s' : St} {sz : Nat} {v : V} {xs : List V} {o : Option Nat} (h : Acc s sz v xs o) (hs : ∀ k, o = some k → s'.get k = s.get k) : Acc s' sz v xs o := by
  cases o with
  | none => exact h
  | some k => exact ⟨h.1, by rw [hs k rfl]; exact h.2⟩
theorem Acc.lt {s : St} {sz : Nat} {v : V} {xs : List V} {k : Nat} (hg : Good s) (h : Acc s sz v xs (some k)) : k < s.n := (hg.1 _ _ h.2).1

theorem Good.put {s : St} {l : Nat} {o o' : O} (h : Good s) (hg : s.get l = some o) : Good (s.put l (some o')) := by
  refine ⟨fun j x hx => ?_, h.2⟩
  by_cases e : j = l
  · subst e; exact h.1 j o hg
  · rw [St.get_put_ne _ _ _ _ e] at hx; exact h.1 j x hx
theorem Good.new {s : St} {o : O} (h : Good s) : Good (s.new o) := by
  refine ⟨fun j x hx => ?_, fun l hl => Nat.lt_succ_of_lt (h.2 l hl)⟩
  by_cases e : j = s.n
  · subst e; exact St.new_L0 _ h.2
  · rw [St.get_new_ne _ _ _ e] at hx; exact St.new_L _ (h.1 j x hx)

theorem Acc.app {s : St} {sz : Nat} {xs : List V} {o : Option Nat} {e : List V} {x y : Arg} {t bytes n : Nat} {ag : Bool} {cs : List V} (hg : Good s) (h : Acc s sz (x.ev e) xs o) (hy : srcOf s sz (y.ev e) = some (n, cs)) (hr : room (xs.length + n) bytes = true) :
    ∃ v s' o', aop e s (.app t true ag sz bytes x y) = some (v, s') ∧ Acc s' sz v (xs ++ chunks ag sz cs n) o' ∧ Good s' ∧ (o' = o ∨ (o = none ∧ o' = some s.n)) ∧ s.n ≤ s'.n ∧ ∀ j, o' ≠ some j → j < s.n → s'.get j = s.get j := by
  by_cases hn : n = 0
  · subst hn
    cases o with
    | none =>
      obtain ⟨hx, rfl⟩ := h
      exact ⟨.ns, s, none, by simp [aop, hx, hy, appV], ⟨rfl, rfl⟩, hg, .inl rfl, Nat.le_refl _, fun _ _ _ => rfl⟩
    | some k =>
      obtain ⟨hx, hk⟩ := h
      exact ⟨.pu sz xs (.t k), s, some k, by simp [aop, hx, hy, appV], ⟨by simp [chunks], by simpa [chunks] using hk⟩, hg, .inl rfl, Nat.le_refl _, fun _ _ _ => rfl⟩
  · cases o with
    | none =>
      obtain ⟨hx, rfl⟩ := h
      have hr' : room n bytes = true := by simpa using hr
      refine ⟨.pu sz (chunks ag sz cs n) (.t s.n), s.new (.t (n * sz)), some s.n, by simp [aop, hx, hy, appV, hn, hr'], ⟨by simp, by rw [St.get_new_same]; simp [chunks_len]⟩, hg.new, .inr ⟨rfl, rfl⟩, Nat.le_succ _, fun j _ hlt => ?_⟩
      rw [St.get_new_ne _ _ _ (Nat.ne_of_lt hlt)]
    | some k =>
      obtain ⟨hx, hk⟩ := h
      refine ⟨.pu sz (xs ++ chunks ag sz cs n) (.t k), s.put k (some (.t ((xs.length + n) * sz))), some k, by simp [aop, hx, hy, appV, hn, hr, hk], ⟨rfl, by rw [St.get_put_same]; simp [chunks_len]⟩, hg.put hk, .inl rfl, Nat.le_refl _, fun j hj _ => ?_⟩
      rw [St.get_put_ne _ _ _ _ (fun e => hj (by rw [e]))]

section
variable {gt : Nat → Option V} {P : Program}
/-- a step whose value is left open -/
theorem hN_abs {e : List V} {d : Option Nat} {r : List I} {next : List V → St → Prop} {v : V} {s' : St} (h : fSetD e d v fun e => HO gt P r e s' next) : hN gt P d r next e v s' := by
  unfold hN; rw [fV_eq]; exact h
theorem hDN_abs2 {hist : List St} {b : Nat} {d : Option Nat} {k : K} {r : List (Nat × I)} {next : List V → St → Prop} {e : List V} {s : St} {v : V} {s' : St} (hk : k.cls = 2) (h : fSetD e d v fun e => HD gt P (s :: hist) r e s' next) : hDN gt P hist b d k r next e s v s' := by
  unfold hDN; rw [fV_eq, hk]; exact h
theorem setAt_all {cs z : List V} (h : cs.length = z.length) : setAt z 0 cs = cs := by
  rw [setAt_take cs z 0 (by omega)]
  simp [h]
theorem aop_bsl1 {e : List V} {s : St} {t sz : Nat} {z cs : List V} {x : Arg} (hx : x.ev e = .ag cs) (hz : z.length = sz) (hc : cs.length = sz) : aop e s (.bsl t true true 1 sz z [(0, sz, x)]) = some (.pu sz [.ag cs] (.x 1), s) := by
  have hr : (List.replicate 1 z).flatten = z := by simp
  have hcl : (V.ag cs).cells = cs := rfl
  have hf : fillp e z [(0, sz, x)] = some cs := by
    simp only [fillp, hx, hcl]
    rw [if_pos ⟨rfl, hc, by omega⟩, setAt_all (by omega)]
  simp only [aop, hr, hf, chunks, mkEl, if_true]
  rw [List.take_of_length_le (by omega)]
/-- a row of one element -/
theorem HO.bsl1 {e : List V} {s : St} {d : Option Nat} {t sz : Nat} {z cs : List V} {x : Arg} {r : List I} {next : List V → St → Prop} (hx : x.ev e = .ag cs) (hz : z.length = sz) (hc : cs.length = sz) (h : fSetD e d (.pu sz [.ag cs] (.x 1)) fun e => HO gt P r e s next) :
    HO gt P ({ d := d, g := none, k := .a (.bsl t true true 1 sz z [(0, sz, x)]) } :: r) e s next := by
  rw [fSetD_eq] at h
  obtain ⟨e', s', h3, h4⟩ := h.out
  exact ⟨e', s', .op _ s rfl (aop_bsl1 hx hz hc) h3, h4⟩
theorem src_single {s : St} {sz : Nat} {c : Cap} {cs : List V} : srcOf s sz (.pu sz [.ag cs] c) = some (1, ([V.ag cs].map V.cells).flatten) := by simp [srcOf]
theorem chunk_single {sz : Nat} {cs : List V} (h : cs.length = sz) : chunks true sz (([V.ag cs].map V.cells).flatten) 1 = [.ag cs] := by
  subst h
  simp [chunks, mkEl, V.cells]
end
end Rf
