/-
  Contracts: sums of events by keys, gathered in a map. No statement stands here.
-/
import Derived.Test.YthoojnjcdllgdaaGreatDoorCode
import Derived.Test.YthoojnjcdllgdaaGreatDoorLF
set_option linter.all false
namespace Go.Proofs.YthoojnjcdllgdaaGreatDoor
open Go Rf TallyP
set_option maxRecDepth 100000
set_option maxHeartbeats 4000000

def isEv (m : Mv) : Bool := eqZ m.k 2 && eqZ m.ok 1
theorem ev_den (m : Mv) (hn : Nm s0.L m.v) : PDen gt0 Tryz.prog 25 [m.v] (.b (isEv m)) := by
  refine PDen.hc gnm0 hF25 (fun x hx => by simp at hx; subst hx; exact hn) (.b _) ?_
  conv => whnf
  refine sgo ?_
  unfold isEv
  cases h1 : eqZ m.k 2 <;> conv => whnf
  · refine sgo ?_
    rfl
  · refine sgo ?_
    rfl
abbrev Sm := Int × Int × Int × Int
def smV (s : Sm) : V := .ag [.i .i64 s.1, .i .i64 s.2.1, .i .i64 s.2.2.1, .i .i64 s.2.2.2]
def gf (m : Mv) : Option Sm → Sm
  | none => (wrapF .i64 (0 + 1), wrapF .i64 (0 + ((m.rl.length : Nat) : Int)), m.t, m.t)
  | some s => (wrapF .i64 (s.1 + 1), wrapF .i64 (s.2.1 + ((m.rl.length : Nat) : Int)), s.2.2.1, m.t)
def gath {K : Type} [DecidableEq K] (kf : Mv → K) (l : List (K × Sm)) (m : Mv) : List (K × Sm) := if isEv m then updM (gf m) (kf m) l else l
def iE (k : Int) : V := .i .i64 k
theorem enc_i : KEnc .i iE := ⟨fun _ => rfl, fun a b => by show some (eqZ a b) = _; rw [eqZ_eq]; rfl⟩
def EG (ms : List Mv) (F : Nat) (cap : List V) (M i : Nat) : List V := (.bad :: .fn F cap :: .bad :: .bad :: .nm :: .m M :: .bad :: .bad :: .bad :: .bad :: .bad :: .bad :: .pu 47 (ms.map Mv.v) .u :: .i .i64 (ms.length : Nat) :: .i .i64 (i : Nat) :: List.replicate 46 .bad)
theorem mEs_nm {n : Nat → Prop} : ∀ (l : List (Int × Sm)) (b : Nat), ∀ x ∈ mEs iE smV l b, Nm n x.1 ∧ Nm n x.2.1
  | [], _, x, h => by cases h
  | (k, s) :: r, b, x, h => by
    rcases List.mem_cons.1 h with rfl | h
    · exact ⟨.i _ _, .ag _ fun c hc => by
        simp only [List.mem_cons, List.not_mem_nil, or_false] at hc
        rcases hc with rfl | rfl | rfl | rfl <;> exact .i _ _⟩
    · exact mEs_nm r (b + 1) x h
theorem gath23_den (F : Nat) (cap : List V) (kf : Mv → Int) (ms : List Mv) (hn : ∀ m ∈ ms, Nm s0.L m.v) (hl : ms.length ≤ 1000) (hc : callOk Tryz.prog F = true) (hkey : ∀ m ∈ ms, PDen gt0 Tryz.prog F (.ag m.e :: cap) (iE (kf m))) (s : St) (hx : NoX s) (R : List (Int × Sm)) (hR : ms.foldl (gath kf) [] = R) :
    Den gt0 Tryz.prog 26 [.pu 47 (ms.map Mv.v) .u, .fn F cap] s (.m s.n) (s.new (.x (.mp (mEs iE smV R 0) R.length))) := by
  have hll : (ms.map Mv.v).length = ms.length := List.length_map ..
  refine Den.tidy fun ht => Den.hm gnm0 hF26 ?_
  have K := Kn.init ht.1 hx
  conv => whnf
  refine kgo ?_; (repeat (first | intro (X:Nat) | intro (z:St) | intro (av:V) | intro (tk:Option Nat) | (intro (K1:Kn _ _ _); (try clear K); rename Kn _ _ _ => K))); conv => whnf
  rw [hll]
  have K1 := K.newX (.mp [] 0)
  clear K; rename Kn _ _ _ => K
  generalize s.new (.x (.mp [] 0)) = z0 at K ⊢
  refine HM.loop gnm0 fun hg => ⟨fun n e z => ∃ (i : Nat) (l : List (Int × Sm)), i ≤ ms.length ∧ n = ms.length - i ∧ e = EG ms F cap s.n i ∧ (ms.drop i).foldl (gath kf) l = R ∧ Kn s z [.ob true s.n (.x (.mp (mEs iE smV l 0) l.length))],
    ⟨ms.length, fg [1, 4, 5, 12, 13, 14] _, _, WkM.fg hg, 0, [], Nat.zero_le _, rfl, rfl, hR, K⟩, ?_⟩
  clear K
  rintro n e z1 ⟨i, l, hi, rfl, rfl, hf, K⟩
  conv => whnf
  refine kgo ?_; (repeat (first | intro (X:Nat) | intro (z:St) | intro (av:V) | intro (tk:Option Nat) | (intro (K1:Kn _ _ _); (try clear K); rename Kn _ _ _ => K))); conv => whnf
  refine brL ⟨fun hlt => ?_, fun hge => ?_⟩ <;> conv => whnf
  · have hmi : ms[i]? = some ms[i] := List.getElem?_eq_getElem hlt
    rw [List.drop_eq_getElem_cons hlt, List.foldl_cons] at hf
    have hnm := hn ms[i] (List.getElem_mem ..)
    have hk := hkey ms[i] (List.getElem_mem ..)
    generalize ms[i] = m at hmi hf hnm hk
    refine kgo ?_; (repeat (first | intro (X:Nat) | intro (z:St) | intro (av:V) | intro (tk:Option Nat) | (intro (K1:Kn _ _ _); (try clear K); rename Kn _ _ _ => K))); conv => whnf
    refine ⟨_, _, ev_den m hnm _, ?_⟩
    cases hev : isEv m <;> conv => whnf
    · refine kgo ?_; (repeat (first | intro (X:Nat) | intro (z:St) | intro (av:V) | intro (tk:Option Nat) | (intro (K1:Kn _ _ _); (try clear K); rename Kn _ _ _ => K))); conv => whnf
      intro hg'
      exact ⟨ms.length - (i + 1), fg [1, 4, 5, 12, 13, 14] _, _, by omega, WkM.fg hg', i + 1, l, hlt, rfl, rfl, by rwa [gath, hev] at hf, K.drop0 rfl⟩
    · refine kgo ?_; (repeat (first | intro (X:Nat) | intro (z:St) | intro (av:V) | intro (tk:Option Nat) | (intro (K1:Kn _ _ _); (try clear K); rename Kn _ _ _ => K))); conv => whnf
      refine ⟨hc, _, _, hk _, ?_⟩
      conv => whnf
      refine kgo ?_; (repeat (first | intro (X:Nat) | intro (z:St) | intro (av:V) | intro (tk:Option Nat) | (intro (K1:Kn _ _ _); (try clear K); rename Kn _ _ _ => K))); conv => whnf
      have hgm := K.get (w := true) (.there (.there .here))
      rw [aym_look1 (k := kf m) enc_i hgm]
      rotate_left
      · rfl
      · rfl
      cases hlk : lkk (kf m) l with
      | none =>
        conv => whnf
        refine kgo ?_; (repeat (first | intro (X:Nat) | intro (z:St) | intro (av:V) | intro (tk:Option Nat) | (intro (K1:Kn _ _ _); (try clear K); rename Kn _ _ _ => K))); conv => whnf
        refine ⟨hc, _, _, hk _, ?_⟩
        conv => whnf
        have hX := K.get (w := true) .here
        have hg2 := K.get (w := true) (.there (.there (.there .here)))
        refine kgo ?_; (repeat (first | intro (X:Nat) | intro (z:St) | intro (av:V) | intro (tk:Option Nat) | (intro (K1:Kn _ _ _); (try clear K); rename Kn _ _ _ => K))); conv => whnf
        rw [aym_upd (k := kf m) (f := gf m) (v := smV (gf m none)) enc_i hg2 (by rw [hlk])]
        rotate_left
        · rfl
        · rfl
        · rfl
        have K1 := K.put (o' := .x (.mp (mEs iE smV (updM (gf m) (kf m) l) 0) (updM (gf m) (kf m) l).length)) (.there (.there (.there .here))) (fun _ => rfl)
        clear K hX hg2; rename Kn _ _ _ => K
        conv => whnf
        refine kgo ?_; (repeat (first | intro (X:Nat) | intro (z:St) | intro (av:V) | intro (tk:Option Nat) | (intro (K1:Kn _ _ _); (try clear K); rename Kn _ _ _ => K))); conv => whnf
        intro hg'
        exact ⟨ms.length - (i + 1), fg [1, 4, 5, 12, 13, 14] _, _, by omega, WkM.fg hg', i + 1, updM (gf m) (kf m) l, hlt, rfl, rfl, by rwa [gath, if_pos hev] at hf, ((K.drop0 rfl).drop0 rfl).drop0 rfl⟩
      | some u =>
        conv => whnf
        refine kgo ?_; (repeat (first | intro (X:Nat) | intro (z:St) | intro (av:V) | intro (tk:Option Nat) | (intro (K1:Kn _ _ _); (try clear K); rename Kn _ _ _ => K))); conv => whnf
        refine ⟨hc, _, _, hk _, ?_⟩
        conv => whnf
        have hX := K.get (w := true) .here
        have hg2 := K.get (w := true) (.there (.there (.there .here)))
        refine kgo ?_; (repeat (first | intro (X:Nat) | intro (z:St) | intro (av:V) | intro (tk:Option Nat) | (intro (K1:Kn _ _ _); (try clear K); rename Kn _ _ _ => K))); conv => whnf
        rw [aym_upd (k := kf m) (f := gf m) (v := smV (gf m (some u))) enc_i hg2 (by rw [hlk])]
        rotate_left
        · rfl
        · rfl
        · rfl
        have K1 := K.put (o' := .x (.mp (mEs iE smV (updM (gf m) (kf m) l) 0) (updM (gf m) (kf m) l).length)) (.there (.there (.there .here))) (fun _ => rfl)
        clear K hX hg2; rename Kn _ _ _ => K
        conv => whnf
        refine kgo ?_; (repeat (first | intro (X:Nat) | intro (z:St) | intro (av:V) | intro (tk:Option Nat) | (intro (K1:Kn _ _ _); (try clear K); rename Kn _ _ _ => K))); conv => whnf
        intro hg'
        exact ⟨ms.length - (i + 1), fg [1, 4, 5, 12, 13, 14] _, _, by omega, WkM.fg hg', i + 1, updM (gf m) (kf m) l, hlt, rfl, rfl, by rwa [gath, if_pos hev] at hf, ((K.drop0 rfl).drop0 rfl).drop0 rfl⟩
  · rw [List.drop_of_length_le hge, List.foldl_nil] at hf
    subst hf
    refine kgo ?_; (repeat (first | intro (X:Nat) | intro (z:St) | intro (av:V) | intro (tk:Option Nat) | (intro (K1:Kn _ _ _); (try clear K); rename Kn _ _ _ => K))); conv => whnf
    exact K.finM ht hx .here (mEs_nm l 0) (.refl _)
end Go.Proofs.YthoojnjcdllgdaaGreatDoor
