/-
  Contracts: the forms of entries; may an entry be (the code's). No statement stands here.
-/
import Derived.Test.YtbcapobkbgckbaaGreatDoorCodA
import Derived.Test.YtbcapobkbgckbaaGreatDoorSfm
import Derived.Test.YtbcapobkbgckbaaGreatDoorTmap
import Derived.Test.YtbcapobkbgckbaaGreatDoorLF
set_option linter.all false
namespace Go.Proofs.YtbcapobkbgckbaaGreatDoor
open Go Rf TallyP
set_option maxRecDepth 100000
set_option maxHeartbeats 4000000

def iE (k : Int) : V := .i .i64 k
theorem enc_i : KEnc .i iE := ⟨fun _ => rfl, fun a b => by
  simp only [keq, iE]
  rw [eqZ_eq]
  congr 1⟩
def clV (n : Nat) : V := .fn 30 [.q (.fn n []) 0]
def fmE (x : Fm × V) : V := .ag [.s x.1.w, .b x.1.a, .b x.1.n, .b x.1.b, .i .i64 x.1.l, x.2]
def fmsL : List (Int × (Fm × V)) := [(1, (fm1, clV 39)), (2, (fm2, .fn 31 [])), (3, (fm3, .fn 33 [])), (4, (fm4, clV 40)), (5, (fm5, .fn 35 [])), (6, (fm6, clV 41)), (7, (fm7, clV 42)), (8, (fm8, clV 43)), (9, (fm9, .fn 37 []))]
theorem lkk_fms (k : Int) : (fmS k = none ∧ lkk k fmsL = none) ∨ ∃ f d, fmS k = some f ∧ lkk k fmsL = some (f, d) := by
  rcases fmS_cases k with ⟨h, h1⟩ | ⟨rfl, h1⟩ | ⟨rfl, h1⟩ | ⟨rfl, h1⟩ | ⟨rfl, h1⟩ | ⟨rfl, h1⟩ | ⟨rfl, h1⟩ | ⟨rfl, h1⟩ | ⟨rfl, h1⟩ | ⟨rfl, h1⟩
  · refine .inl ⟨h1, ?_⟩
    simp only [fmsL, lkk]
    repeat (first | rw [if_neg (by omega)] | rfl)
  all_goals exact .inr ⟨_, _, h1, rfl⟩
theorem at_den (n : Nat) : PDen gt0 Tryz.prog 29 [.fn n []] (clV n) := by
  have hn : Nm s0.L (.fn n []) := .fn _ _ (fun x hx => by cases hx)
  refine PDen.hc gnm0 hF29 (fun x hx => by simp only [List.mem_singleton] at hx; subst hx; exact hn) (.fn _ _ fun x hx => by simp only [List.mem_singleton] at hx; subst hx; exact .q _ _ hn) ?_
  conv => whnf
  refine sgo ?_
  rfl
theorem forms_nm {L : Nat → Prop} : ∀ x ∈ mEs iE fmE fmsL 0, Nm L x.1 ∧ Nm L x.2.1 := by
  have hf : ∀ n, Nm L (.fn n []) := fun n => .fn _ _ (fun x hx => by cases hx)
  have hc : ∀ n, Nm L (clV n) := fun n => .fn _ _ fun x hx => by simp only [List.mem_singleton] at hx; subst hx; exact .q _ _ (hf n)
  have hg : ∀ (f : Fm) (d : V), Nm L d → Nm L (fmE (f, d)) := fun f d hd => .ag _ fun c hc => by
    simp only [List.mem_cons, List.not_mem_nil, or_false] at hc
    rcases hc with rfl | rfl | rfl | rfl | rfl | rfl
    · exact .s _
    · exact .b _
    · exact .b _
    · exact .b _
    · exact .i _ _
    · exact hd
  intro x hx
  simp only [mEs, fmsL, List.mem_cons, List.not_mem_nil, or_false] at hx
  rcases hx with rfl | rfl | rfl | rfl | rfl | rfl | rfl | rfl | rfl <;> refine ⟨.i _ _, hg _ _ ?_⟩ <;> first | exact hf _ | exact hc _
theorem forms_den (s : St) (hx : NoX s) : Den gt0 Tryz.prog 14 [] s (.m s.n) (s.new (.x (.mp (mEs iE fmE fmsL 0) 9))) := by
  refine Den.tidy fun ht => Den.hm gnm0 hF14 ?_
  have K := Kn.init ht.1 hx
  conv => whnf
  refine kgo ?_; (repeat (first | intro (X:Nat) | intro (z:St) | intro (av:V) | intro (tk:Option Nat) | (intro (K1:Kn _ _ _); (try clear K); rename Kn _ _ _ => K))); conv => whnf
  have hcO : callOk Tryz.prog 29 = true := by kernel_rfl
  have K1 := K.newX (.mp (mEs iE fmE [] 0) 0)
  clear K; rename Kn _ _ _ => K
  change callOk Tryz.prog 29 = true ∧ _
  refine ⟨hcO, _, _, at_den 39 _, ?_⟩
  change hN gt0 _ _ _ _ _ _ (s.new (.x (.mp (mEs iE fmE [] 0) 0)))
  generalize s.new (.x (.mp (mEs iE fmE [] 0) 0)) = z at K ⊢
  conv => whnf
  refine kgo ?_; (repeat (first | intro (X:Nat) | intro (z:St) | intro (av:V) | intro (tk:Option Nat) | (intro (K1:Kn _ _ _); (try clear K); rename Kn _ _ _ => K))); conv => whnf
  have hM := K.get (w := true) .here
  rw [aym_upd (k := 1) (f := fun _ => (fm1, clV 39)) (l := []) enc_i hM rfl]
  rotate_left
  · rfl
  · rfl
  · rfl
  conv => whnf
  have K1 := K.put (o' := .x (.mp (mEs iE fmE (updM (fun _ => (fm1, clV 39)) 1 []) 0) (updM (fun _ => (fm1, clV 39)) (1 : Int) []).length)) .here (fun _ => rfl)
  generalize z.put s.n (some (.x (.mp (mEs iE fmE (updM (fun _ => (fm1, clV 39)) 1 []) 0) (updM (fun _ => (fm1, clV 39)) (1 : Int) []).length))) = z1 at K1 ⊢
  replace K1 : Kn s z1 [.ob true s.n (.x (.mp (mEs iE fmE [(1, (fm1, clV 39))] 0) 1))] := K1
  clear hM K z; rename St => z; rename Kn _ _ _ => K
  generalize V.ag _ = v9
  refine kgo ?_; (repeat (first | intro (X:Nat) | intro (z:St) | intro (av:V) | intro (tk:Option Nat) | (intro (K1:Kn _ _ _); (try clear K); rename Kn _ _ _ => K))); conv => whnf
  have hM := K.get (w := true) .here
  rw [aym_upd (k := 2) (f := fun _ => (fm2, .fn 31 [])) (l := [(1, (fm1, clV 39))]) enc_i hM rfl]
  rotate_left
  · rfl
  · rfl
  · rfl
  conv => whnf
  have K1 := K.put (o' := .x (.mp (mEs iE fmE (updM (fun _ => (fm2, .fn 31 [])) 2 [(1, (fm1, clV 39))]) 0) (updM (fun _ => (fm2, .fn 31 [])) (2 : Int) [(1, (fm1, clV 39))]).length)) .here (fun _ => rfl)
  generalize z.put s.n (some (.x (.mp (mEs iE fmE (updM (fun _ => (fm2, .fn 31 [])) 2 [(1, (fm1, clV 39))]) 0) (updM (fun _ => (fm2, .fn 31 [])) (2 : Int) [(1, (fm1, clV 39))]).length))) = z1 at K1 ⊢
  replace K1 : Kn s z1 [.ob true s.n (.x (.mp (mEs iE fmE [(1, (fm1, clV 39)), (2, (fm2, .fn 31 []))] 0) 2))] := K1
  clear hM K z; rename St => z; rename Kn _ _ _ => K
  generalize V.ag _ = v9
  refine kgo ?_; (repeat (first | intro (X:Nat) | intro (z:St) | intro (av:V) | intro (tk:Option Nat) | (intro (K1:Kn _ _ _); (try clear K); rename Kn _ _ _ => K))); conv => whnf
  have hM := K.get (w := true) .here
  rw [aym_upd (k := 3) (f := fun _ => (fm3, .fn 33 [])) (l := [(1, (fm1, clV 39)), (2, (fm2, .fn 31 []))]) enc_i hM rfl]
  rotate_left
  · rfl
  · rfl
  · rfl
  conv => whnf
  have K1 := K.put (o' := .x (.mp (mEs iE fmE (updM (fun _ => (fm3, .fn 33 [])) 3 [(1, (fm1, clV 39)), (2, (fm2, .fn 31 []))]) 0) (updM (fun _ => (fm3, .fn 33 [])) (3 : Int) [(1, (fm1, clV 39)), (2, (fm2, .fn 31 []))]).length)) .here (fun _ => rfl)
  generalize z.put s.n (some (.x (.mp (mEs iE fmE (updM (fun _ => (fm3, .fn 33 [])) 3 [(1, (fm1, clV 39)), (2, (fm2, .fn 31 []))]) 0) (updM (fun _ => (fm3, .fn 33 [])) (3 : Int) [(1, (fm1, clV 39)), (2, (fm2, .fn 31 []))]).length))) = z1 at K1 ⊢
  replace K1 : Kn s z1 [.ob true s.n (.x (.mp (mEs iE fmE [(1, (fm1, clV 39)), (2, (fm2, .fn 31 [])), (3, (fm3, .fn 33 []))] 0) 3))] := K1
  clear hM K z; rename St => z; rename Kn _ _ _ => K
  generalize V.ag _ = v9
  refine kgo ?_; (repeat (first | intro (X:Nat) | intro (z:St) | intro (av:V) | intro (tk:Option Nat) | (intro (K1:Kn _ _ _); (try clear K); rename Kn _ _ _ => K))); conv => whnf
  refine ⟨hcO, _, _, at_den 40 _, ?_⟩
  conv => whnf
  refine kgo ?_; (repeat (first | intro (X:Nat) | intro (z:St) | intro (av:V) | intro (tk:Option Nat) | (intro (K1:Kn _ _ _); (try clear K); rename Kn _ _ _ => K))); conv => whnf
  have hM := K.get (w := true) .here
  rw [aym_upd (k := 4) (f := fun _ => (fm4, clV 40)) (l := [(1, (fm1, clV 39)), (2, (fm2, .fn 31 [])), (3, (fm3, .fn 33 []))]) enc_i hM rfl]
  rotate_left
  · rfl
  · rfl
  · rfl
  conv => whnf
  have K1 := K.put (o' := .x (.mp (mEs iE fmE (updM (fun _ => (fm4, clV 40)) 4 [(1, (fm1, clV 39)), (2, (fm2, .fn 31 [])), (3, (fm3, .fn 33 []))]) 0) (updM (fun _ => (fm4, clV 40)) (4 : Int) [(1, (fm1, clV 39)), (2, (fm2, .fn 31 [])), (3, (fm3, .fn 33 []))]).length)) .here (fun _ => rfl)
  generalize z.put s.n (some (.x (.mp (mEs iE fmE (updM (fun _ => (fm4, clV 40)) 4 [(1, (fm1, clV 39)), (2, (fm2, .fn 31 [])), (3, (fm3, .fn 33 []))]) 0) (updM (fun _ => (fm4, clV 40)) (4 : Int) [(1, (fm1, clV 39)), (2, (fm2, .fn 31 [])), (3, (fm3, .fn 33 []))]).length))) = z1 at K1 ⊢
  replace K1 : Kn s z1 [.ob true s.n (.x (.mp (mEs iE fmE [(1, (fm1, clV 39)), (2, (fm2, .fn 31 [])), (3, (fm3, .fn 33 [])), (4, (fm4, clV 40))] 0) 4))] := K1
  clear hM K z; rename St => z; rename Kn _ _ _ => K
  generalize V.ag _ = v9
  refine kgo ?_; (repeat (first | intro (X:Nat) | intro (z:St) | intro (av:V) | intro (tk:Option Nat) | (intro (K1:Kn _ _ _); (try clear K); rename Kn _ _ _ => K))); conv => whnf
  have hM := K.get (w := true) .here
  rw [aym_upd (k := 5) (f := fun _ => (fm5, .fn 35 [])) (l := [(1, (fm1, clV 39)), (2, (fm2, .fn 31 [])), (3, (fm3, .fn 33 [])), (4, (fm4, clV 40))]) enc_i hM rfl]
  rotate_left
  · rfl
  · rfl
  · rfl
  conv => whnf
  have K1 := K.put (o' := .x (.mp (mEs iE fmE (updM (fun _ => (fm5, .fn 35 [])) 5 [(1, (fm1, clV 39)), (2, (fm2, .fn 31 [])), (3, (fm3, .fn 33 [])), (4, (fm4, clV 40))]) 0) (updM (fun _ => (fm5, .fn 35 [])) (5 : Int) [(1, (fm1, clV 39)), (2, (fm2, .fn 31 [])), (3, (fm3, .fn 33 [])), (4, (fm4, clV 40))]).length)) .here (fun _ => rfl)
  generalize z.put s.n (some (.x (.mp (mEs iE fmE (updM (fun _ => (fm5, .fn 35 [])) 5 [(1, (fm1, clV 39)), (2, (fm2, .fn 31 [])), (3, (fm3, .fn 33 [])), (4, (fm4, clV 40))]) 0) (updM (fun _ => (fm5, .fn 35 [])) (5 : Int) [(1, (fm1, clV 39)), (2, (fm2, .fn 31 [])), (3, (fm3, .fn 33 [])), (4, (fm4, clV 40))]).length))) = z1 at K1 ⊢
  replace K1 : Kn s z1 [.ob true s.n (.x (.mp (mEs iE fmE [(1, (fm1, clV 39)), (2, (fm2, .fn 31 [])), (3, (fm3, .fn 33 [])), (4, (fm4, clV 40)), (5, (fm5, .fn 35 []))] 0) 5))] := K1
  clear hM K z; rename St => z; rename Kn _ _ _ => K
  generalize V.ag _ = v9
  refine kgo ?_; (repeat (first | intro (X:Nat) | intro (z:St) | intro (av:V) | intro (tk:Option Nat) | (intro (K1:Kn _ _ _); (try clear K); rename Kn _ _ _ => K))); conv => whnf
  refine ⟨hcO, _, _, at_den 41 _, ?_⟩
  conv => whnf
  refine kgo ?_; (repeat (first | intro (X:Nat) | intro (z:St) | intro (av:V) | intro (tk:Option Nat) | (intro (K1:Kn _ _ _); (try clear K); rename Kn _ _ _ => K))); conv => whnf
  have hM := K.get (w := true) .here
  rw [aym_upd (k := 6) (f := fun _ => (fm6, clV 41)) (l := [(1, (fm1, clV 39)), (2, (fm2, .fn 31 [])), (3, (fm3, .fn 33 [])), (4, (fm4, clV 40)), (5, (fm5, .fn 35 []))]) enc_i hM rfl]
  rotate_left
  · rfl
  · rfl
  · rfl
  conv => whnf
  have K1 := K.put (o' := .x (.mp (mEs iE fmE (updM (fun _ => (fm6, clV 41)) 6 [(1, (fm1, clV 39)), (2, (fm2, .fn 31 [])), (3, (fm3, .fn 33 [])), (4, (fm4, clV 40)), (5, (fm5, .fn 35 []))]) 0) (updM (fun _ => (fm6, clV 41)) (6 : Int) [(1, (fm1, clV 39)), (2, (fm2, .fn 31 [])), (3, (fm3, .fn 33 [])), (4, (fm4, clV 40)), (5, (fm5, .fn 35 []))]).length)) .here (fun _ => rfl)
  generalize z.put s.n (some (.x (.mp (mEs iE fmE (updM (fun _ => (fm6, clV 41)) 6 [(1, (fm1, clV 39)), (2, (fm2, .fn 31 [])), (3, (fm3, .fn 33 [])), (4, (fm4, clV 40)), (5, (fm5, .fn 35 []))]) 0) (updM (fun _ => (fm6, clV 41)) (6 : Int) [(1, (fm1, clV 39)), (2, (fm2, .fn 31 [])), (3, (fm3, .fn 33 [])), (4, (fm4, clV 40)), (5, (fm5, .fn 35 []))]).length))) = z1 at K1 ⊢
  replace K1 : Kn s z1 [.ob true s.n (.x (.mp (mEs iE fmE [(1, (fm1, clV 39)), (2, (fm2, .fn 31 [])), (3, (fm3, .fn 33 [])), (4, (fm4, clV 40)), (5, (fm5, .fn 35 [])), (6, (fm6, clV 41))] 0) 6))] := K1
  clear hM K z; rename St => z; rename Kn _ _ _ => K
  generalize V.ag _ = v9
  refine kgo ?_; (repeat (first | intro (X:Nat) | intro (z:St) | intro (av:V) | intro (tk:Option Nat) | (intro (K1:Kn _ _ _); (try clear K); rename Kn _ _ _ => K))); conv => whnf
  refine ⟨hcO, _, _, at_den 42 _, ?_⟩
  conv => whnf
  refine kgo ?_; (repeat (first | intro (X:Nat) | intro (z:St) | intro (av:V) | intro (tk:Option Nat) | (intro (K1:Kn _ _ _); (try clear K); rename Kn _ _ _ => K))); conv => whnf
  have hM := K.get (w := true) .here
  rw [aym_upd (k := 7) (f := fun _ => (fm7, clV 42)) (l := [(1, (fm1, clV 39)), (2, (fm2, .fn 31 [])), (3, (fm3, .fn 33 [])), (4, (fm4, clV 40)), (5, (fm5, .fn 35 [])), (6, (fm6, clV 41))]) enc_i hM rfl]
  rotate_left
  · rfl
  · rfl
  · rfl
  conv => whnf
  have K1 := K.put (o' := .x (.mp (mEs iE fmE (updM (fun _ => (fm7, clV 42)) 7 [(1, (fm1, clV 39)), (2, (fm2, .fn 31 [])), (3, (fm3, .fn 33 [])), (4, (fm4, clV 40)), (5, (fm5, .fn 35 [])), (6, (fm6, clV 41))]) 0) (updM (fun _ => (fm7, clV 42)) (7 : Int) [(1, (fm1, clV 39)), (2, (fm2, .fn 31 [])), (3, (fm3, .fn 33 [])), (4, (fm4, clV 40)), (5, (fm5, .fn 35 [])), (6, (fm6, clV 41))]).length)) .here (fun _ => rfl)
  generalize z.put s.n (some (.x (.mp (mEs iE fmE (updM (fun _ => (fm7, clV 42)) 7 [(1, (fm1, clV 39)), (2, (fm2, .fn 31 [])), (3, (fm3, .fn 33 [])), (4, (fm4, clV 40)), (5, (fm5, .fn 35 [])), (6, (fm6, clV 41))]) 0) (updM (fun _ => (fm7, clV 42)) (7 : Int) [(1, (fm1, clV 39)), (2, (fm2, .fn 31 [])), (3, (fm3, .fn 33 [])), (4, (fm4, clV 40)), (5, (fm5, .fn 35 [])), (6, (fm6, clV 41))]).length))) = z1 at K1 ⊢
  replace K1 : Kn s z1 [.ob true s.n (.x (.mp (mEs iE fmE [(1, (fm1, clV 39)), (2, (fm2, .fn 31 [])), (3, (fm3, .fn 33 [])), (4, (fm4, clV 40)), (5, (fm5, .fn 35 [])), (6, (fm6, clV 41)), (7, (fm7, clV 42))] 0) 7))] := K1
  clear hM K z; rename St => z; rename Kn _ _ _ => K
  generalize V.ag _ = v9
  refine kgo ?_; (repeat (first | intro (X:Nat) | intro (z:St) | intro (av:V) | intro (tk:Option Nat) | (intro (K1:Kn _ _ _); (try clear K); rename Kn _ _ _ => K))); conv => whnf
  refine ⟨hcO, _, _, at_den 43 _, ?_⟩
  conv => whnf
  refine kgo ?_; (repeat (first | intro (X:Nat) | intro (z:St) | intro (av:V) | intro (tk:Option Nat) | (intro (K1:Kn _ _ _); (try clear K); rename Kn _ _ _ => K))); conv => whnf
  have hM := K.get (w := true) .here
  rw [aym_upd (k := 8) (f := fun _ => (fm8, clV 43)) (l := [(1, (fm1, clV 39)), (2, (fm2, .fn 31 [])), (3, (fm3, .fn 33 [])), (4, (fm4, clV 40)), (5, (fm5, .fn 35 [])), (6, (fm6, clV 41)), (7, (fm7, clV 42))]) enc_i hM rfl]
  rotate_left
  · rfl
  · rfl
  · rfl
  conv => whnf
  have K1 := K.put (o' := .x (.mp (mEs iE fmE (updM (fun _ => (fm8, clV 43)) 8 [(1, (fm1, clV 39)), (2, (fm2, .fn 31 [])), (3, (fm3, .fn 33 [])), (4, (fm4, clV 40)), (5, (fm5, .fn 35 [])), (6, (fm6, clV 41)), (7, (fm7, clV 42))]) 0) (updM (fun _ => (fm8, clV 43)) (8 : Int) [(1, (fm1, clV 39)), (2, (fm2, .fn 31 [])), (3, (fm3, .fn 33 [])), (4, (fm4, clV 40)), (5, (fm5, .fn 35 [])), (6, (fm6, clV 41)), (7, (fm7, clV 42))]).length)) .here (fun _ => rfl)
  generalize z.put s.n (some (.x (.mp (mEs iE fmE (updM (fun _ => (fm8, clV 43)) 8 [(1, (fm1, clV 39)), (2, (fm2, .fn 31 [])), (3, (fm3, .fn 33 [])), (4, (fm4, clV 40)), (5, (fm5, .fn 35 [])), (6, (fm6, clV 41)), (7, (fm7, clV 42))]) 0) (updM (fun _ => (fm8, clV 43)) (8 : Int) [(1, (fm1, clV 39)), (2, (fm2, .fn 31 [])), (3, (fm3, .fn 33 [])), (4, (fm4, clV 40)), (5, (fm5, .fn 35 [])), (6, (fm6, clV 41)), (7, (fm7, clV 42))]).length))) = z1 at K1 ⊢
  replace K1 : Kn s z1 [.ob true s.n (.x (.mp (mEs iE fmE [(1, (fm1, clV 39)), (2, (fm2, .fn 31 [])), (3, (fm3, .fn 33 [])), (4, (fm4, clV 40)), (5, (fm5, .fn 35 [])), (6, (fm6, clV 41)), (7, (fm7, clV 42)), (8, (fm8, clV 43))] 0) 8))] := K1
  clear hM K z; rename St => z; rename Kn _ _ _ => K
  generalize V.ag _ = v9
  refine kgo ?_; (repeat (first | intro (X:Nat) | intro (z:St) | intro (av:V) | intro (tk:Option Nat) | (intro (K1:Kn _ _ _); (try clear K); rename Kn _ _ _ => K))); conv => whnf
  have hM := K.get (w := true) .here
  rw [aym_upd (k := 9) (f := fun _ => (fm9, .fn 37 [])) (l := [(1, (fm1, clV 39)), (2, (fm2, .fn 31 [])), (3, (fm3, .fn 33 [])), (4, (fm4, clV 40)), (5, (fm5, .fn 35 [])), (6, (fm6, clV 41)), (7, (fm7, clV 42)), (8, (fm8, clV 43))]) enc_i hM rfl]
  rotate_left
  · rfl
  · rfl
  · rfl
  conv => whnf
  have K1 := K.put (o' := .x (.mp (mEs iE fmE (updM (fun _ => (fm9, .fn 37 [])) 9 [(1, (fm1, clV 39)), (2, (fm2, .fn 31 [])), (3, (fm3, .fn 33 [])), (4, (fm4, clV 40)), (5, (fm5, .fn 35 [])), (6, (fm6, clV 41)), (7, (fm7, clV 42)), (8, (fm8, clV 43))]) 0) (updM (fun _ => (fm9, .fn 37 [])) (9 : Int) [(1, (fm1, clV 39)), (2, (fm2, .fn 31 [])), (3, (fm3, .fn 33 [])), (4, (fm4, clV 40)), (5, (fm5, .fn 35 [])), (6, (fm6, clV 41)), (7, (fm7, clV 42)), (8, (fm8, clV 43))]).length)) .here (fun _ => rfl)
  generalize z.put s.n (some (.x (.mp (mEs iE fmE (updM (fun _ => (fm9, .fn 37 [])) 9 [(1, (fm1, clV 39)), (2, (fm2, .fn 31 [])), (3, (fm3, .fn 33 [])), (4, (fm4, clV 40)), (5, (fm5, .fn 35 [])), (6, (fm6, clV 41)), (7, (fm7, clV 42)), (8, (fm8, clV 43))]) 0) (updM (fun _ => (fm9, .fn 37 [])) (9 : Int) [(1, (fm1, clV 39)), (2, (fm2, .fn 31 [])), (3, (fm3, .fn 33 [])), (4, (fm4, clV 40)), (5, (fm5, .fn 35 [])), (6, (fm6, clV 41)), (7, (fm7, clV 42)), (8, (fm8, clV 43))]).length))) = z1 at K1 ⊢
  replace K1 : Kn s z1 [.ob true s.n (.x (.mp (mEs iE fmE [(1, (fm1, clV 39)), (2, (fm2, .fn 31 [])), (3, (fm3, .fn 33 [])), (4, (fm4, clV 40)), (5, (fm5, .fn 35 [])), (6, (fm6, clV 41)), (7, (fm7, clV 42)), (8, (fm8, clV 43)), (9, (fm9, .fn 37 []))] 0) 9))] := K1
  clear hM K z; rename St => z; rename Kn _ _ _ => K
  generalize V.ag _ = v9
  refine kgo ?_; (repeat (first | intro (X:Nat) | intro (z:St) | intro (av:V) | intro (tk:Option Nat) | (intro (K1:Kn _ _ _); (try clear K); rename Kn _ _ _ => K))); conv => whnf
  exact Kn.finM (es := mEs iE fmE fmsL 0) (clk := 9) K ht hx .here forms_nm (.refl _)
end Go.Proofs.YtbcapobkbgckbaaGreatDoor
