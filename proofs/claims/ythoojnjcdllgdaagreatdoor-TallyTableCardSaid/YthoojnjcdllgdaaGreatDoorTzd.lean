/-
  Contract: the longest silence. No statement stands here.
-/
import Derived.Test.YthoojnjcdllgdaaGreatDoorTsm
import Derived.Test.YthoojnjcdllgdaaGreatDoorCodeT
set_option linter.all false
namespace Go.Proofs.YthoojnjcdllgdaaGreatDoor
open Go Rf TallyP
set_option maxRecDepth 100000
set_option maxHeartbeats 4000000

abbrev Gp := Int × Int × Int
def gl (g : Gp) : Int := wrapF .i64 (g.2.2 - g.2.1)
def betG (g c : Gp) : Bool := ltZ (gl c) (gl g) || (eqZ (gl g) (gl c) && ltZ g.1 c.1)
def pickG (o : Option Gp) (g : Gp) : Option Gp := match o with
  | none => some g
  | some c => if betG g c = true then some g else some c
def silS (st : List (Int × Int) × Option Gp) (m : Mv) : List (Int × Int) × Option Gp :=
  (updM (fun _ => m.t) m.to st.1, match lkk m.to st.1 with
    | none => st.2
    | some fr => pickG st.2 (m.to, fr, m.t))
def gpC (o : Option Gp) : List V := match o with
  | none => [.i .i64 0, .i .i64 0, .i .i64 0]
  | some g => [.i .i64 g.1, .i .i64 g.2.1, .i .i64 g.2.2]
def silV (o : Option Gp) : V := .tu [.ag (gpC o), .b o.isSome]
theorem silV_nm {n : Nat → Prop} (o : Option Gp) : Nm n (silV o) := .tu _ fun c hc => by
  simp only [List.mem_cons, List.not_mem_nil, or_false] at hc
  rcases hc with rfl | rfl
  · refine .ag _ fun c hc => ?_
    cases o <;> simp only [gpC, List.mem_cons, List.not_mem_nil, or_false] at hc <;> rcases hc with rfl | rfl | rfl <;> exact .i _ _
  · exact .b _
def silF (es : List Mv) : Option Gp := (es.foldl silS ([], none)).2
theorem evs_snoc (ms : List Mv) (i : Nat) (m : Mv) (h : ms[i]? = some m) : evs (ms.take (i + 1)) = evs (ms.take i) ++ (if isEv m then [m] else []) := by
  unfold evs
  rw [List.take_add_one, h, List.filter_append]
  cases hh : isEv m <;> simp [hh]
def ESi (ms : List Mv) (A M : Nat) (b : Bool) (i : Nat) : List V := (.bad :: .bad :: .p A 0 :: .b b :: .m M :: .bad :: .bad :: .bad :: .bad :: .bad :: .bad :: .bad :: .pu 47 (ms.map Mv.v) .u :: .i .i64 (ms.length : Nat) :: .i .i64 (i : Nat) :: List.replicate 71 .bad)
theorem sil16_den (ms : List Mv) (hms : ms.length ≤ 1000) (hn : ∀ m ∈ ms, Nm s0.L m.v) (s : St) (hx : NoX s) :
    Den gt0 Tryz.prog 16 [.pu 47 (ms.map Mv.v) .u] s (silV (silF (evs ms))) s := by
  have hll : (ms.map Mv.v).length = ms.length := List.length_map ..
  refine Den.tidy fun hty => Den.hm gnm0 hF16 ?_
  have K := Kn.init hty.1 hx
  conv => whnf
  refine kgo ?_; (repeat (first | intro (X:Nat) | intro (z:St) | intro (av:V) | intro (tk:Option Nat) | (intro (K1:Kn _ _ _); (try clear K); rename Kn _ _ _ => K))); conv => whnf
  rw [hll]
  have K1 := K.newX (.mp [] 0)
  clear K; rename Kn _ _ _ => K
  generalize z.new (.x (.mp [] 0)) = z0 at K ⊢
  generalize z.n = M at K ⊢
  obtain ⟨A, hA⟩ : ∃ A, A = X := ⟨_, rfl⟩
  rw [← hA] at K ⊢
  refine HM.loop gnm0 fun hg => ⟨fun n e z => ∃ (i : Nat) (L : List (Int × Int)) (o : Option Gp), i ≤ ms.length ∧ n = ms.length - i ∧ e = ESi ms A M o.isSome i ∧ (evs (ms.take i)).foldl silS ([], none) = (L, o) ∧ Kn s z [.ob true M (.x (.mp (mEs iE iE L 0) L.length)), .ob true A (.c (gpC o) 0 (some 81))],
    ⟨ms.length, fg [2, 3, 4, 12, 13, 14] _, _, WkM.fg hg, 0, [], none, Nat.zero_le _, rfl, rfl, rfl, K⟩, ?_⟩
  clear K
  rintro n e z1 ⟨i, L, o, hi, rfl, rfl, hf, K⟩
  conv => whnf
  refine kgo ?_; (repeat (first | intro (X:Nat) | intro (z:St) | intro (av:V) | intro (tk:Option Nat) | (intro (K1:Kn _ _ _); (try clear K); rename Kn _ _ _ => K))); conv => whnf
  refine brL ⟨fun hlt => ?_, fun hge => ?_⟩ <;> conv => whnf
  · have hmi : ms[i]? = some ms[i] := List.getElem?_eq_getElem hlt
    have hnm := hn ms[i] (List.getElem_mem ..)
    have hsn := evs_snoc ms i _ hmi
    generalize ms[i] = m at hmi hnm hsn
    refine kgo ?_; (repeat (first | intro (X:Nat) | intro (z:St) | intro (av:V) | intro (tk:Option Nat) | (intro (K1:Kn _ _ _); (try clear K); rename Kn _ _ _ => K))); conv => whnf
    refine ⟨_, _, ev_den m hnm _, ?_⟩
    cases hev : isEv m <;> conv => whnf
    · rw [hev] at hsn
      refine kgo ?_; (repeat (first | intro (X:Nat) | intro (z:St) | intro (av:V) | intro (tk:Option Nat) | (intro (K1:Kn _ _ _); (try clear K); rename Kn _ _ _ => K))); conv => whnf
      intro hg'
      exact ⟨ms.length - (i + 1), fg [2, 3, 4, 12, 13, 14] _, _, by omega, WkM.fg hg', i + 1, L, o, hlt, rfl, rfl, by rw [hsn]; simpa using hf, K.drop0 rfl⟩
    · rw [hev] at hsn
      have hf1 : (evs (ms.take (i + 1))).foldl silS ([], none) = silS (L, o) m := by rw [hsn, List.foldl_append, hf]; rfl
      refine kgo ?_; (repeat (first | intro (X:Nat) | intro (z:St) | intro (av:V) | intro (tk:Option Nat) | (intro (K1:Kn _ _ _); (try clear K); rename Kn _ _ _ => K))); conv => whnf
      have hgm := K.get (w := true) (.there (.there .here))
      rw [aym_look1 (k := m.to) enc_i hgm]
      rotate_left
      · rfl
      · rfl
      clear hgm
      obtain ⟨c1, c2, c3, hc⟩ : ∃ c1 c2 c3, gpC o = [.i .i64 c1, .i .i64 c2, .i .i64 c3] := by cases o <;> exact ⟨_, _, _, rfl⟩
      rw [hc] at K
      cases hlk : lkk m.to L with
      | none =>
        have hfo : silS (L, o) m = (updM (fun _ => m.t) m.to L, o) := by unfold silS; simp only [hlk]
        rw [hfo] at hf1
        conv => whnf
        refine kgo ?_; (repeat (first | intro (X:Nat) | intro (z:St) | intro (av:V) | intro (tk:Option Nat) | (intro (K1:Kn _ _ _); (try clear K); rename Kn _ _ _ => K))); conv => whnf
        have hg2 := K.get (w := true) (.there (.there .here))
        rw [aym_upd (k := m.to) (f := fun _ => m.t) (v := .i .i64 m.t) enc_i hg2 rfl]
        rotate_left
        · rfl
        · rfl
        · rfl
        have K1 := K.put (o' := .x (.mp (mEs iE iE (updM (fun _ => m.t) m.to L) 0) (updM (fun _ => m.t) m.to L).length)) (.there (.there .here)) (fun _ => rfl)
        clear K; rename Kn _ _ _ => K
        conv => whnf
        refine kgo ?_; (repeat (first | intro (X:Nat) | intro (z:St) | intro (av:V) | intro (tk:Option Nat) | (intro (K1:Kn _ _ _); (try clear K); rename Kn _ _ _ => K))); conv => whnf
        rw [← hc] at K
        intro hg'
        exact ⟨ms.length - (i + 1), fg [2, 3, 4, 12, 13, 14] _, _, by omega, WkM.fg hg', i + 1, _, o, hlt, rfl, rfl, hf1, (K.drop0 rfl).drop0 rfl⟩
      | some fr =>
        have hfo : silS (L, o) m = (updM (fun _ => m.t) m.to L, pickG o (m.to, fr, m.t)) := by unfold silS; simp only [hlk]
        rw [hfo] at hf1
        conv => whnf
        refine kgo ?_; (repeat (first | intro (X:Nat) | intro (z:St) | intro (av:V) | intro (tk:Option Nat) | (intro (K1:Kn _ _ _); (try clear K); rename Kn _ _ _ => K))); conv => whnf
        have hg2 := K.get (w := true) (.there (.there .here))
        rw [aym_upd (k := m.to) (f := fun _ => m.t) (v := .i .i64 m.t) enc_i hg2 rfl]
        rotate_left
        · rfl
        · rfl
        · rfl
        have K1 := K.put (o' := .x (.mp (mEs iE iE (updM (fun _ => m.t) m.to L) 0) (updM (fun _ => m.t) m.to L).length)) (.there (.there .here)) (fun _ => rfl)
        clear K; rename Kn _ _ _ => K
        conv => whnf
        refine kgo ?_; (repeat (first | intro (X:Nat) | intro (z:St) | intro (av:V) | intro (tk:Option Nat) | (intro (K1:Kn _ _ _); (try clear K); rename Kn _ _ _ => K))); conv => whnf
        cases o with
        | none =>
          conv => whnf
          refine kgo ?_; (repeat (first | intro (X:Nat) | intro (z:St) | intro (av:V) | intro (tk:Option Nat) | (intro (K1:Kn _ _ _); (try clear K); rename Kn _ _ _ => K))); conv => whnf
          intro hg'
          exact ⟨ms.length - (i + 1), fg [2, 3, 4, 12, 13, 14] _, _, by omega, WkM.fg hg', i + 1, _, some (m.to, fr, m.t), hlt, rfl, rfl, hf1.trans (by rw [show pickG none (m.to, fr, m.t) = some (m.to, fr, m.t) from rfl]), (K.drop0 rfl).drop0 rfl⟩
        | some c =>
          obtain ⟨d1, d2, d3⟩ := c
          simp only [gpC, List.cons.injEq, V.i.injEq, true_and, and_true] at hc
          obtain ⟨rfl, rfl, rfl⟩ := hc
          have hpy : betG (m.to, fr, m.t) (d1, d2, d3) = true → pickG (some (d1, d2, d3)) (m.to, fr, m.t) = some (m.to, fr, m.t) := fun h => by
            show (if betG (m.to, fr, m.t) (d1, d2, d3) = true then _ else _) = _
            rw [if_pos h]
          have hpn : betG (m.to, fr, m.t) (d1, d2, d3) = false → pickG (some (d1, d2, d3)) (m.to, fr, m.t) = some (d1, d2, d3) := fun h => by
            show (if betG (m.to, fr, m.t) (d1, d2, d3) = true then _ else _) = _
            rw [if_neg (by rw [h]; simp)]
          have hbe : betG (m.to, fr, m.t) (d1, d2, d3) = (ltZ (wrapF .i64 (d3 - d2)) (wrapF .i64 (m.t - fr)) || (eqZ (wrapF .i64 (m.t - fr)) (wrapF .i64 (d3 - d2)) && ltZ m.to d1)) := rfl
          conv => whnf
          refine kgo ?_; (repeat (first | intro (X:Nat) | intro (z:St) | intro (av:V) | intro (tk:Option Nat) | (intro (K1:Kn _ _ _); (try clear K); rename Kn _ _ _ => K))); conv => whnf
          cases q1 : ltZ (wrapF .i64 (d3 - d2)) (wrapF .i64 (m.t - fr)) <;> conv => whnf
          · refine kgo ?_; (repeat (first | intro (X:Nat) | intro (z:St) | intro (av:V) | intro (tk:Option Nat) | (intro (K1:Kn _ _ _); (try clear K); rename Kn _ _ _ => K))); conv => whnf
            cases q2 : eqZ (wrapF .i64 (m.t - fr)) (wrapF .i64 (d3 - d2)) <;> conv => whnf
            · refine kgo ?_; (repeat (first | intro (X:Nat) | intro (z:St) | intro (av:V) | intro (tk:Option Nat) | (intro (K1:Kn _ _ _); (try clear K); rename Kn _ _ _ => K))); conv => whnf
              intro hg'
              exact ⟨ms.length - (i + 1), fg [2, 3, 4, 12, 13, 14] _, _, by omega, WkM.fg hg', i + 1, _, some (d1, d2, d3), hlt, rfl, rfl, hf1.trans (by rw [hpn (by rw [hbe, q1, q2]; rfl)]), (K.drop0 rfl).drop0 rfl⟩
            · refine kgo ?_; (repeat (first | intro (X:Nat) | intro (z:St) | intro (av:V) | intro (tk:Option Nat) | (intro (K1:Kn _ _ _); (try clear K); rename Kn _ _ _ => K))); conv => whnf
              cases q3 : ltZ m.to d1 <;> conv => whnf
              · refine kgo ?_; (repeat (first | intro (X:Nat) | intro (z:St) | intro (av:V) | intro (tk:Option Nat) | (intro (K1:Kn _ _ _); (try clear K); rename Kn _ _ _ => K))); conv => whnf
                intro hg'
                exact ⟨ms.length - (i + 1), fg [2, 3, 4, 12, 13, 14] _, _, by omega, WkM.fg hg', i + 1, _, some (d1, d2, d3), hlt, rfl, rfl, hf1.trans (by rw [hpn (by rw [hbe, q1, q2, q3]; rfl)]), (K.drop0 rfl).drop0 rfl⟩
              · refine kgo ?_; (repeat (first | intro (X:Nat) | intro (z:St) | intro (av:V) | intro (tk:Option Nat) | (intro (K1:Kn _ _ _); (try clear K); rename Kn _ _ _ => K))); conv => whnf
                intro hg'
                exact ⟨ms.length - (i + 1), fg [2, 3, 4, 12, 13, 14] _, _, by omega, WkM.fg hg', i + 1, _, some (m.to, fr, m.t), hlt, rfl, rfl, hf1.trans (by rw [hpy (by rw [hbe, q1, q2, q3]; rfl)]), (K.drop0 rfl).drop0 rfl⟩
          · refine kgo ?_; (repeat (first | intro (X:Nat) | intro (z:St) | intro (av:V) | intro (tk:Option Nat) | (intro (K1:Kn _ _ _); (try clear K); rename Kn _ _ _ => K))); conv => whnf
            intro hg'
            exact ⟨ms.length - (i + 1), fg [2, 3, 4, 12, 13, 14] _, _, by omega, WkM.fg hg', i + 1, _, some (m.to, fr, m.t), hlt, rfl, rfl, hf1.trans (by rw [hpy (by rw [hbe, q1]; rfl)]), (K.drop0 rfl).drop0 rfl⟩
  · rw [List.take_of_length_le hge] at hf
    have ho : silF (evs ms) = o := by unfold silF; rw [hf]
    rw [ho]
    have hon := silV_nm (n := s.L) o
    unfold silV at hon ⊢
    cases o with
    | none =>
      simp only [gpC] at K
      refine kgo ?_; (repeat (first | intro (X:Nat) | intro (z:St) | intro (av:V) | intro (tk:Option Nat) | (intro (K1:Kn _ _ _); (try clear K); rename Kn _ _ _ => K))); conv => whnf
      exact K.ret [.ag [.i .i64 0, .i .i64 0, .i .i64 0], .b false] hty hx hon (.refl _)
    | some g =>
      simp only [gpC] at K
      refine kgo ?_; (repeat (first | intro (X:Nat) | intro (z:St) | intro (av:V) | intro (tk:Option Nat) | (intro (K1:Kn _ _ _); (try clear K); rename Kn _ _ _ => K))); conv => whnf
      exact K.ret [.ag [.i .i64 g.1, .i .i64 g.2.1, .i .i64 g.2.2], .b true] hty hx hon (.refl _)
end Go.Proofs.YthoojnjcdllgdaaGreatDoor
