/-
  Contract: the document's windows: a row put in. No statement stands here.
-/
import Derived.Test.YthoojnjcdllgdaaTrs
set_option linter.all false
namespace Go.Proofs.Ythoojnjcdllgdaa
open Go Rf TallyP
set_option maxRecDepth 100000
set_option maxHeartbeats 4000000

theorem mgN0 {s z : St} {L : List En} (K : Kn s z L) {sz bytes t k : Nat} {ag : Bool} {cells : List V} (hk : 0 < k) (hr : room k bytes = true) : ∃ l z', Kn s z' (.ob true l (.c cells 0 (some t)) :: L) ∧ ∀ (e : List V) (x y : Arg), x.ev e = .ns → srcOf z sz (y.ev e) = some (k, cells) → aop e z (.app t false ag sz bytes x y) = some (.sl sz l 0 k none, z') :=
  ⟨z.n, _, K.new rfl, fun e x y hx hy => by
    have hk0 : ¬ k = 0 := by omega
    simp [aop, hx, hy, appV, hr, hk0]⟩
theorem kill {s z : St} {L : List En} {l : Nat} (K : Kn s z L) (hl : s.n ≤ l) (hn : l ∉ nms L) : Kn s (z.put l none) L := by
  refine ⟨K.n, K.gg, fun m hm h => ?_, ⟨fun m o hm => ?_, K.g.2⟩, fun m x hm => ?_, fun e he => En.ok.keep (K.o e he) fun k hk => St.get_put_ne _ _ _ _ fun e1 => ?_, K.d⟩
  · rw [St.get_put_ne _ _ _ _ (by omega)]; exact K.r m hm h
  · by_cases e : m = l
    · subst e; rw [St.get_put_same] at hm; cases hm
    · rw [St.get_put_ne _ _ _ _ e] at hm; rw [St.put_L]; exact K.g.1 m o hm
  · by_cases e : m = l
    · subst e; rw [St.get_put_same] at hm; cases hm
    · rw [St.get_put_ne _ _ _ _ e] at hm; exact K.xm m x hm
  · subst e1; exact hn (nms_mem.2 ⟨e, he, hk⟩)
theorem mgN1 {s z : St} {L : List En} {l n k sz bytes t : Nat} {ag : Bool} {cs cells : List V} (K : Kn s z (.ob true l (.c cs 0 (some t)) :: L)) (hn : cs.length = n * sz) (hk : 0 < k) (hr : room (n + k) bytes = true) (h1 : 0 < sz) : ∃ l' z', Kn s z' (.ob true l' (.c (cs ++ cells) 0 (some t)) :: L) ∧
    ∀ (e : List V) (x y : Arg), x.ev e = .sl sz l 0 n none → srcOf z sz (y.ev e) = some (k, cells) → aop e z (.app t false ag sz bytes x y) = some (.sl sz l' 0 (n + k) none, z') := by
  have hok := K.at .here
  have hn' : l ∉ nms L := fun h => by
    have := K.d
    rw [nms_cons, List.nodup_append] at this
    exact this.2.2 l (by simp [En.nm]) l h rfl
  refine ⟨z.n, _, (kill (K.drop0 rfl) (hok.2.2.1 rfl) hn').new rfl, fun e x y hx hy => ?_⟩
  have hg := K.get (w := true) .here
  have e3 : ¬ ((n + k) * sz ≤ n * sz) := by
    have := Nat.mul_lt_mul_of_pos_right (show n < n + k by omega) h1
    omega
  have hk0 : ¬ k = 0 := by omega
  simp [aop, hx, hy, appV, hg, hr, hn, e3, hk0]
  rw [List.take_of_length_le (by omega)]
theorem stays_two {gt : Nat → Option V} {P : Program} {e : List V} {v : V} {t t' s1 s2 : St} {l : List St} {y : A} (h : aop e t y = some (v, s1)) (h' : aop e t' y = some (v, s2)) : stays gt P e v (.a y) (List.take 2 (t :: t' :: l)) := by
  simp only [List.take, stays, h, h', and_self]
theorem app_z {e : List V} {s : St} {x y : Arg} {v : V} {t sz bytes : Nat} {ag : Bool} {cells : List V} (hx : x.ev e = .ns) (hy : y.ev e = v) (hs : srcOf s sz v = some (0, cells)) : aop e s (.app t false ag sz bytes x y) = some (.ns, s) := by
  simp [aop, hx, hy, hs, appV]
end Go.Proofs.Ythoojnjcdllgdaa
