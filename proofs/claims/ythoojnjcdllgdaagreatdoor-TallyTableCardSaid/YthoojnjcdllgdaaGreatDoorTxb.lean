/-
  Contract: the document's windows. No statement stands here.
-/
import Derived.Test.YthoojnjcdllgdaaGreatDoorTxa
import Derived.Test.YthoojnjcdllgdaaGreatDoorLF
set_option linter.all false
namespace Go.Proofs.YthoojnjcdllgdaaGreatDoor
open Go Rf TallyP
set_option maxRecDepth 100000
set_option maxHeartbeats 4000000

def refR (len : Int) (es : List Mv) : List Rw2 := es.foldl (fun l m => insR ltI (incS m.rl.length) (fromW len m.t) l) []
theorem rd_rows {z : St} {X : Nat} {t : Option Nat} {l : List Rw2} (hg : z.get X = some (.c (l.flatMap c3) 0 t)) : Rd z (.sl 3 X 0 l.length none) (.pu 3 (l.map fun x => .ag (c3 x)) .u) := by
  refine .sl 3 X 0 l.length none _ _ _ _ hg (by rw [c3_len]; omega) (List.length_map ..) (fun i hi => ?_) (fun i j hi hj => ?_)
  · have hx : l[i]? = some l[i] := List.getElem?_eq_getElem hi
    simp [List.getD_eq_getElem?_getD, hx, V.cells, c3]
  · have hx : l[i]? = some l[i] := List.getElem?_eq_getElem hi
    generalize l[i] = x at hx
    have h1 : (l.flatMap c3).getD (0 + i * 3 + j) .bad = ((l.map fun x => V.ag (c3 x)).getD i .bad).cells.getD j .bad := by
      rw [Nat.zero_add, List.getD_eq_getElem?_getD, c3_at l i j x hx hj]
      simp [List.getD_eq_getElem?_getD, hx, V.cells]
    rw [h1]; exact .refl _
theorem rd_tu {s : St} {a a' b : V} (h : Rd s a a') : Rd s (.tu [a, b]) (.tu [a', b]) := .tu _ _ rfl fun j hj => by
  match j, hj with
  | 0, _ => exact h
  | 1, _ => exact .refl _
theorem rws_nm {n : Nat → Prop} (l : List Rw2) : Nm n (.tu [.pu 3 (l.map fun x => .ag (c3 x)) .u, .i .i64 0]) := by
  refine .tu _ fun c hc => ?_
  simp only [List.mem_cons, List.not_mem_nil, or_false] at hc
  rcases hc with rfl | rfl
  · refine .pu _ _ _ (fun v hv => ?_) (fun k hk => by cases hk)
    obtain ⟨x, _, rfl⟩ := List.mem_map.1 hv
    refine .ag _ fun c hc => ?_
    simp only [c3, List.mem_cons, List.not_mem_nil, or_false] at hc
    rcases hc with rfl | rfl | rfl <;> exact .i _ _
  · exact .i _ _
theorem ins_len {kk : Int} {n : Nat} : ∀ l : List Rw2, 0 < (insR ltI (incS n) kk l).length ∧ (insR ltI (incS n) kk l).length ≤ l.length + 1
  | [] => by simp [insR]
  | y :: l => by
    have ih := ins_len (kk := kk) (n := n) l
    obtain ⟨y1, y2⟩ := y
    unfold insR
    split
    · simp only [List.length_cons]; omega
    · split <;> simp only [List.length_cons] <;> omega
theorem ref_step (len : Int) (es : List Mv) (i : Nat) (m : Mv) (h : es[i]? = some m) : refR len (es.take (i + 1)) = insR ltI (incS m.rl.length) (fromW len m.t) (refR len (es.take i)) := by
  unfold refR
  rw [List.take_add_one, h, List.foldl_append]; rfl
theorem ref_len (len : Int) (es : List Mv) : ∀ i, i ≤ es.length → (refR len (es.take i)).length ≤ i
  | 0, _ => by simp [refR]
  | i + 1, h => by
    have hm : es[i]? = some es[i] := List.getElem?_eq_getElem (by omega)
    rw [ref_step len es i _ hm]
    have := ref_len len es i (by omega)
    have := (ins_len (kk := fromW len es[i].t) (n := es[i].rl.length) (refR len (es.take i))).2
    omega
def EL (av xv ev rv : V) (i : Nat) : List V := (av :: ev :: .bad :: .bad :: .bad :: .bad :: xv :: rv :: .i .i64 (i : Nat) :: List.replicate 86 .bad)
theorem f9_den (ms : List Mv) (len : Int) (hms : ms.length ≤ 1000) (hn : ∀ m ∈ ms, Nm s0.L m.v) (hl : 0 < len) (hl2 : len ≤ 4503599627370496) (ht : ∀ m ∈ evs ms, -1152921504606846976 ≤ m.t ∧ m.t ≤ 1152921504606846976) (s : St) (hx : NoX s) :
    Den gt0 Tryz.prog 17 [.pu 47 (ms.map Mv.v) .u, .i .i64 len] s (.tu [.pu 3 ((refR len (evs ms)).map fun x => .ag (c3 x)) .u, .i .i64 0]) s := by
  refine Den.tidy fun hty => Den.hmr gnm0 hF17m ?_
  have K := Kn.init hty.1 hx
  conv => whnf
  refine kgo ?_; (repeat (first | intro (X:Nat) | intro (z:St) | intro (av:V) | intro (tk:Option Nat) | (intro (K1:Kn _ _ _); (try clear K); rename Kn _ _ _ => K))); conv => whnf
  rw [show ltZ len 1 = false by rw [ltZ_eq]; simp; omega]
  conv => whnf
  refine kgo ?_; (repeat (first | intro (X:Nat) | intro (z:St) | intro (av:V) | intro (tk:Option Nat) | (intro (K1:Kn _ _ _); (try clear K); rename Kn _ _ _ => K))); conv => whnf
  refine ⟨_, _, events_den ms hms hn s hx, ?_⟩
  conv => whnf
  refine kgo ?_; (repeat (first | intro (X:Nat) | intro (z:St) | intro (av:V) | intro (tk:Option Nat) | (intro (K1:Kn _ _ _); (try clear K); rename Kn _ _ _ => K))); conv => whnf
  obtain ⟨E, hE⟩ : ∃ E, E = evs ms := ⟨_, rfl⟩
  have hEl : E.length ≤ 1000 := by
    have := List.length_filter_le isEv ms
    rw [hE]; unfold evs; omega
  refine HM.loop gnm0 fun hg => ⟨fun n e z => ∃ i : Nat, i ≤ E.length ∧ n = E.length - i ∧ ((i = 0 ∧ e = EL (.pu 47 (ms.map Mv.v) .u) (.pu 9 ((evs ms).map Mv.o) .u) (.i .i64 len) .ns i ∧ Kn s z []) ∨
      ∃ X, 0 < (refR len (E.take i)).length ∧ e = EL (.pu 47 (ms.map Mv.v) .u) (.pu 9 ((evs ms).map Mv.o) .u) (.i .i64 len) (.sl 3 X 0 (refR len (E.take i)).length none) i ∧ Kn s z [.ob true X (.c ((refR len (E.take i)).flatMap c3) 0 (some 73))]),
    ⟨E.length, fg [0, 1, 6, 7, 8] _, _, WkM.fg hg, 0, Nat.zero_le _, rfl, .inl ⟨rfl, rfl, K⟩⟩, ?_⟩
  clear K
  have hEm : ((evs ms).map Mv.o).length = E.length := by rw [hE, List.length_map]
  rintro n e z1 ⟨i, hi, rfl, ⟨h0, rfl, K⟩ | ⟨X, hp, rfl, K⟩⟩
  · conv => whnf
    refine kgo ?_; (repeat (first | intro (X:Nat) | intro (z:St) | intro (av:V) | intro (tk:Option Nat) | (intro (K1:Kn _ _ _); (try clear K); rename Kn _ _ _ => K))); conv => whnf
    rw [hEm]
    refine brL ⟨fun hlt => ?_, fun hge => ?_⟩ <;> conv => whnf
    · have hlt' : i < (evs ms).length := by rw [← hE]; exact hlt
      have hm : (evs ms)[i]? = some (evs ms)[i] := List.getElem?_eq_getElem hlt'
      have htm := ht _ (List.getElem_mem hlt')
      generalize (evs ms)[i] = m at hm htm
      have hmm : ((evs ms).map Mv.o)[((i : Nat) : Int).toNat]? = some m.o := by simp [hm]
      refine HM.skip ?_
      refine HM.seq (HM.blk (HM.seq ?_))
      generalize hR : mS gt0 Tryz.prog s _ _ = R
      conv => whnf
      refine kgo ?_; (repeat (first | intro (X:Nat) | intro (z:St) | intro (av:V) | intro (tk:Option Nat) | (intro (K1:Kn _ _ _); (try clear K); rename Kn _ _ _ => K))); conv => whnf
      refine ⟨_, _, from28_den hl hl2 htm.1 htm.2 _, ?_⟩
      conv => whnf
      refine kgo ?_; (repeat (first | intro (X:Nat) | intro (z:St) | intro (av:V) | intro (tk:Option Nat) | (intro (K1:Kn _ _ _); (try clear K); rename Kn _ _ _ => K))); conv => whnf
      subst hR
      refine HM.seq (a := .ops _) ?_
      generalize hR : mS gt0 Tryz.prog s _ _ = R
      conv => whnf
      refine kgo ?_; (repeat (first | intro (X:Nat) | intro (z:St) | intro (av:V) | intro (tk:Option Nat) | (intro (K1:Kn _ _ _); (try clear K); rename Kn _ _ _ => K))); conv => whnf
      subst hR
      refine HM.fgt (c := .seq c9i (.seq c9c c9s)) gnm0 [0, 1, 6, 7, 8, 9, 10] fun _ => ?_
      refine tailE (L := []) K _ _ ms i m hm fun e z2 X he K => ?_
      refine HM.fgt (c := .ops _) gnm0 [0, 1, 6, 7, 8, 9, 10] fun _ => ?_
      rw [he]
      have hst : refR len (E.take (i + 1)) = insR ltI (incS m.rl.length) (fromW len m.t) [] := by
        rw [ref_step len E i m (by rw [hE]; exact hm), h0]; rfl
      rw [← hst] at K ⊢
      have hpp : 0 < (refR len (E.take (i + 1))).length := by rw [hst]; exact (ins_len _).1
      conv => whnf
      refine kgo ?_; (repeat (first | intro (X:Nat) | intro (z:St) | intro (av:V) | intro (tk:Option Nat) | (intro (K1:Kn _ _ _); (try clear K); rename Kn _ _ _ => K))); conv => whnf
      intro hg'
      exact ⟨E.length - (i + 1), fg [0, 1, 6, 7, 8] _, _, by omega, WkM.fg hg', i + 1, hlt, rfl, .inr ⟨X, hpp, rfl, K⟩⟩
    · refine kgo ?_; (repeat (first | intro (X:Nat) | intro (z:St) | intro (av:V) | intro (tk:Option Nat) | (intro (K1:Kn _ _ _); (try clear K); rename Kn _ _ _ => K))); conv => whnf
      have hE0 : evs ms = [] := by rw [← hE]; exact List.eq_nil_of_length_eq_zero (by omega)
      exact K.retR [.ns, .i .i64 0] hty hx (rws_nm _) (.refl _) (by rw [hE0]; exact .tus _ _ (.cons (.one (.ns 3)) (.cons (.one (.refl _)) .nil)))
  · conv => whnf
    refine kgo ?_; (repeat (first | intro (X:Nat) | intro (z:St) | intro (av:V) | intro (tk:Option Nat) | (intro (K1:Kn _ _ _); (try clear K); rename Kn _ _ _ => K))); conv => whnf
    rw [hEm]
    refine brL ⟨fun hlt => ?_, fun hge => ?_⟩ <;> conv => whnf
    · have hlt' : i < (evs ms).length := by rw [← hE]; exact hlt
      have hm : (evs ms)[i]? = some (evs ms)[i] := List.getElem?_eq_getElem hlt'
      have htm := ht _ (List.getElem_mem hlt')
      generalize (evs ms)[i] = m at hm htm
      have hmm : ((evs ms).map Mv.o)[((i : Nat) : Int).toNat]? = some m.o := by simp [hm]
      have hln := ref_len len E i hi
      refine HM.skip ?_
      refine HM.seq (HM.blk (HM.seq ?_))
      generalize hR : mS gt0 Tryz.prog s _ _ = R
      conv => whnf
      refine kgo ?_; (repeat (first | intro (X:Nat) | intro (z:St) | intro (av:V) | intro (tk:Option Nat) | (intro (K1:Kn _ _ _); (try clear K); rename Kn _ _ _ => K))); conv => whnf
      refine ⟨_, _, from28_den hl hl2 htm.1 htm.2 _, ?_⟩
      conv => whnf
      refine kgo ?_; (repeat (first | intro (X:Nat) | intro (z:St) | intro (av:V) | intro (tk:Option Nat) | (intro (K1:Kn _ _ _); (try clear K); rename Kn _ _ _ => K))); conv => whnf
      subst hR
      refine HM.seq (a := .ops _) ?_
      generalize hR : mS gt0 Tryz.prog s _ _ = R
      conv => whnf
      refine kgo ?_; (repeat (first | intro (X:Nat) | intro (z:St) | intro (av:V) | intro (tk:Option Nat) | (intro (K1:Kn _ _ _); (try clear K); rename Kn _ _ _ => K))); conv => whnf
      subst hR
      refine HM.fgt (c := .seq c9i (.seq c9c c9s)) gnm0 [0, 1, 6, 7, 8, 9, 10] fun _ => ?_
      refine tail (L := []) (by omega) hp K _ _ ms i m hm fun e z2 X he K => ?_
      refine HM.fgt (c := .ops _) gnm0 [0, 1, 6, 7, 8, 9, 10] fun _ => ?_
      rw [he]
      have hst : refR len (E.take (i + 1)) = insR ltI (incS m.rl.length) (fromW len m.t) (refR len (E.take i)) := ref_step len E i m (by rw [hE]; exact hm)
      rw [← hst] at K ⊢
      have hpp : 0 < (refR len (E.take (i + 1))).length := by rw [hst]; exact (ins_len _).1
      conv => whnf
      refine kgo ?_; (repeat (first | intro (X:Nat) | intro (z:St) | intro (av:V) | intro (tk:Option Nat) | (intro (K1:Kn _ _ _); (try clear K); rename Kn _ _ _ => K))); conv => whnf
      intro hg'
      exact ⟨E.length - (i + 1), fg [0, 1, 6, 7, 8] _, _, by omega, WkM.fg hg', i + 1, hlt, rfl, .inr ⟨X, hpp, rfl, K⟩⟩
    · refine kgo ?_; (repeat (first | intro (X:Nat) | intro (z:St) | intro (av:V) | intro (tk:Option Nat) | (intro (K1:Kn _ _ _); (try clear K); rename Kn _ _ _ => K))); conv => whnf
      have hEi : E.take i = evs ms := by rw [List.take_of_length_le hge, hE]
      rw [hEi] at K ⊢
      exact K.retR [.sl 3 X 0 (refR len (evs ms)).length none, .i .i64 0] hty hx (rws_nm _) (rd_tu (rd_rows (K.getd .here))) (.one (.refl _))
end Go.Proofs.YthoojnjcdllgdaaGreatDoor
