/-
  Contract: the document's windows: the first row. No statement stands here.
-/
import Derived.Test.YthoojnjcdllgdaaTrt
set_option linter.all false
namespace Go.Proofs.Ythoojnjcdllgdaa
open Go Rf TallyP
set_option maxRecDepth 100000
set_option maxHeartbeats 4000000

theorem slN_to {e : List V} {s : St} {x y : Arg} (hx : x.ev e = .ns) (hy : y.ev e = .i .i64 0) : aop e s (.slc 3 x none (some y) none) = some (.ns, s) := by
  simp only [aop, hx, Option.map_some, Option.map_none, hy]
  delta slb
  simp [bnd]
theorem slN_fr {e : List V} {s : St} {x y : Arg} (hx : x.ev e = .ns) (hy : y.ev e = .i .i64 0) : aop e s (.slc 3 x (some y) none none) = some (.ns, s) := by
  simp only [aop, hx, Option.map_some, Option.map_none, hy]
  delta slb
  simp [bnd]
theorem app_sn {e : List V} {s : St} {x y : Arg} {v : V} {X n t sz bytes : Nat} {ag : Bool} {cells cs : List V} {ty : Option Nat} (hg : s.get X = some (.c cs 0 ty)) (hx : x.ev e = .sl sz X 0 n none) (hy : y.ev e = v) (hs : srcOf s sz v = some (0, cells)) : aop e s (.app t false ag sz bytes x y) = some (.sl sz X 0 n none, s) := by
  simp [aop, hx, hy, hs, appV, hg]
def EN (av xv ev : V) (kk : Int) (i : Nat) : List V := (av :: ev :: .bad :: .bad :: .bad :: .bad :: xv :: .ns :: .i .i64 (i : Nat) :: .i .i64 kk :: .i .i64 0 :: List.replicate 84 .bad)
theorem in1e {s z : St} {kk : Int} {L : List En} {Q : XM → List V → St → Prop} (K : Kn s z L) (av xv ev : V) (i : Nat)
    (hQ : ∀ e z', fg [0, 1, 6, 7, 8, 9, 10] e = EN av xv ev kk i → Kn s z' L → Q .nrm e z') :
    HM gt0 Try.prog s c9i (EN av xv ev kk i) z Q := by
  refine kgo ?_; (repeat (first | intro (X:Nat) | intro (z:St) | intro (av:V) | intro (tk:Option Nat) | (intro (K1:Kn _ _ _); (try clear K); rename Kn _ _ _ => K))); conv => whnf
  refine HM.loop gnm0 fun hg => ⟨fun n e z' => e = EN av xv ev kk i ∧ Kn s z' L,
    ⟨0, fg [0, 1, 6, 7, 8, 9, 10] _, _, WkM.fg hg, rfl, K⟩, ?_⟩
  clear K
  rintro n e z1 ⟨rfl, K⟩
  conv => whnf
  refine kgo ?_; (repeat (first | intro (X:Nat) | intro (z:St) | intro (av:V) | intro (tk:Option Nat) | (intro (K1:Kn _ _ _); (try clear K); rename Kn _ _ _ => K))); conv => whnf
  exact hQ _ _ rfl K
theorem in2e {s z : St} {kk : Int} {L : List En} {Q : XM → List V → St → Prop} (K : Kn s z L) (av xv ev : V) (i : Nat)
    (hQ : ∀ e z' X', fg [0, 1, 6, 7, 8, 9, 10] e = EI av xv ev [(kk, 0, 0)] X' kk i 0 → Kn s z' (.ob true X' (.c ([(kk, 0, 0)].flatMap c3) 0 (some 33)) :: L) → Q .nrm e z') :
    HM gt0 Try.prog s c9c (EN av xv ev kk i) z Q := by
  refine kgo ?_; (repeat (first | intro (X:Nat) | intro (z:St) | intro (av:V) | intro (tk:Option Nat) | (intro (K1:Kn _ _ _); (try clear K); rename Kn _ _ _ => K))); conv => whnf
  refine ⟨_, _, slN_to rfl rfl, ?_⟩
  conv => whnf
  refine kgo ?_; (repeat (first | intro (X:Nat) | intro (z:St) | intro (av:V) | intro (tk:Option Nat) | (intro (K1:Kn _ _ _); (try clear K); rename Kn _ _ _ => K))); conv => whnf
  refine ⟨_, _, app_z (v := .ns) rfl rfl rfl, ?_⟩
  conv => whnf
  refine kgo ?_; (repeat (first | intro (X:Nat) | intro (z:St) | intro (av:V) | intro (tk:Option Nat) | (intro (K1:Kn _ _ _); (try clear K); rename Kn _ _ _ => K))); conv => whnf
  obtain ⟨X1, z1, K1, ha1⟩ := mgN0 (t := 33) (ag := true) (sz := 3) (bytes := 24) (k := 1) (cells := [.i .i64 kk, .i .i64 0, .i .i64 0]) K (by decide) (room_of (by omega) (by decide))
  refine ⟨_, _, ha1 _ _ _ rfl rfl, ?_⟩
  clear K ha1; rename Kn _ _ _ => K
  conv => whnf
  refine kgo ?_; (repeat (first | intro (X:Nat) | intro (z:St) | intro (av:V) | intro (tk:Option Nat) | (intro (K1:Kn _ _ _); (try clear K); rename Kn _ _ _ => K))); conv => whnf
  refine ⟨_, _, slN_fr rfl rfl, ?_⟩
  conv => whnf
  refine ⟨stays_two (slN_fr rfl rfl) (slN_fr rfl rfl), ?_⟩
  conv => whnf
  refine kgo ?_; (repeat (first | intro (X:Nat) | intro (z:St) | intro (av:V) | intro (tk:Option Nat) | (intro (K1:Kn _ _ _); (try clear K); rename Kn _ _ _ => K))); conv => whnf
  refine ⟨_, _, app_sn (v := .ns) (K.get (w := true) .here) rfl rfl rfl, ?_⟩
  conv => whnf
  refine kgo ?_; (repeat (first | intro (X:Nat) | intro (z:St) | intro (av:V) | intro (tk:Option Nat) | (intro (K1:Kn _ _ _); (try clear K); rename Kn _ _ _ => K))); conv => whnf
  refine hQ _ _ X1 ?_ (K.cast (by simp [c3]))
  rfl
end Go.Proofs.Ythoojnjcdllgdaa
