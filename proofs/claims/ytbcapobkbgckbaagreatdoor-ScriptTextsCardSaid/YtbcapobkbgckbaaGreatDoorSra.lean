/-
  Contract: an entry's line is read, the code's way: the end of a round. No statement stands here.
-/
import Derived.Test.YtbcapobkbgckbaaGreatDoorSln
import Derived.Test.YtbcapobkbgckbaaGreatDoorWb
import Derived.Test.YtbcapobkbgckbaaGreatDoorPu
set_option linter.all false
namespace Go.Proofs.YtbcapobkbgckbaaGreatDoor
open Go Rf TallyP
set_option maxRecDepth 100000
set_option maxHeartbeats 4000000

theorem hG22 : cF gt1 Tryz.prog (wfa 22) 22 = some f22 := by kernel_rfl
theorem hG49 : cF gt1 Tryz.prog (wfa 49) 49 = some f49 := by kernel_rfl
theorem ss_nm' {L : Nat → Prop} (l : List (List UInt8)) : ∀ v ∈ l.map V.s, Nm L v := fun v hv => by
  obtain ⟨x, -, rfl⟩ := List.mem_map.1 hv; exact .s _
theorem split_d {l : List UInt8} {c : UInt8} (hl : l.length < 4294967281) (s : St) (hx : NoX s) : Den gt1 Tryz.prog 49 [.s l, .s [c]] s (.pu 1 ((cutL c l).map .s) (.x (cutL c l).length)) s := by
  refine Den.tidy fun ht => Den.hm gnm1 hG49 ?_
  have K := Kn.init ht.1 hx
  conv => whnf
  refine kgo ?_; (repeat (first | intro (X:Nat) | intro (z:St) | intro (av:V) | intro (tk:Option Nat) | (intro (K1:Kn _ _ _); (try clear K); rename Kn _ _ _ => K))); conv => whnf
  have h := gsplit_d (c := c) (l := l) (sv := 0) (by decide) hl s
  rw [pieces_cut] at h
  refine ⟨_, _, h, ?_⟩
  conv => whnf
  refine kgo ?_; (repeat (first | intro (X:Nat) | intro (z:St) | intro (av:V) | intro (tk:Option Nat) | (intro (K1:Kn _ _ _); (try clear K); rename Kn _ _ _ => K))); conv => whnf
  exact K.fin ht hx (.pu _ _ _ (ss_nm' _) (fun k hk => by cases hk)) (.refl _)
theorem killK {gt : Nat → Option V} {P : Program} {sb : St} {e : List V} {s : St} {Q : XM → List V → St → Prop} {L L' : List En} {c : C} {X : Nat} {o : O} (hgt : GNm gt) (K : Kn sb s L) (hU : Tkn L (.ob true X o) L') (h : ∀ s', Kn sb s' L' → HM gt P sb c e s' Q) : HM gt P sb c e s Q :=
  HM.wk hgt fun hg => by
    have K' := K.killX hU
    have hget : ∀ l o', (s.put X none).get l = some o' → s.get l = some o' := fun l o' hl => by
      by_cases e1 : l = X
      · subst e1; rw [St.get_put_same] at hl; cases hl
      · rw [St.get_put_ne _ _ _ _ e1] at hl; exact hl
    exact ⟨{ f := Forg.refl _, g := hget, gl := hg.2, l := fun l o' hl => hg.1 l o' (hget l o' hl), o := .inl rfl, x := .inl rfl, e := .inl rfl, b := .inl rfl }, h _ K'⟩
def rdV (S : List UInt8) : Option Ey → V
  | some e => .tu [eyV e, .ni]
  | none => .tu [eyV ⟨0, 0, 0, []⟩, .ifc 92 (.ag [.s S])]
theorem aop_slcx {e : List V} {s : St} {x : Arg} {a : List UInt8} {r : List (List UInt8)} (hx : x.ev e = .pu 1 ((a :: r).map V.s) (.x (a :: r).length)) : aop e s (.slc 1 x (some (.c (.i .i64 1))) none none) = some (.pu 1 (r.map V.s) (.x (r.map V.s).length), s) := by
  simp only [aop, hx, Option.map_some, Option.map_none]
  have h : slb ((a :: r).map V.s).length (capOr (.x (a :: r).length) ((a :: r).map V.s).length) (some ((Arg.c (.i .i64 1)).ev e)) none none = some (1, (a :: r).length, (a :: r).length) := by
    have e1 : ((a :: r).map V.s).length = (a :: r).length := List.length_map ..
    have e2 : capOr (.x (a :: r).length) ((a :: r).map V.s).length = (a :: r).length := rfl
    rw [e2, e1]
    delta slb
    have h1 : bnd (a :: r).length ((Arg.c (.i .i64 1)).ev e) = some 1 := bnd_nat (by simp)
    simp only [h1]
  rw [h]
  simp [List.take_of_length_le]
def ERd (S : List UInt8) (X : Nat) (ws : List (List UInt8)) (k : Nat) : List V := (.s S :: .bad :: .p X 0 :: .ni :: .pu 1 (ws.map V.s) (.x ws.length) :: .i .i64 (k : Nat) :: List.replicate 88 .bad)
def ERh (S : List UInt8) (X : Nat) (ws : List (List UInt8)) (k F E : Nat) (h : List UInt8) : List V := (.s S :: .bad :: .p X 0 :: .ni :: .pu 1 (ws.map V.s) (.x ws.length) :: .i .i64 (k : Nat) :: .p F 0 :: .p E 0 :: .bad :: .s h :: List.replicate 84 .bad)
theorem bs_nm {L : Nat → Prop} (l : List UInt8) : Nm L (bsV l) := .pu _ _ _ (fun v hv => by
  obtain ⟨x, -, rfl⟩ := List.mem_map.1 hv; exact .i _ _) (fun k hk => by cases hk)
theorem eyV_nm {L : Nat → Prop} (e : Ey) : Nm L (eyV e) := .ag _ fun c hc => by
  simp only [List.mem_cons, List.not_mem_nil, or_false] at hc
  rcases hc with rfl | rfl | rfl | rfl
  · exact .i _ _
  · exact .i _ _
  · exact .i _ _
  · exact bs_nm _
def sA : C → C
  | .seq a _ => a
  | c => c
def sB : C → C
  | .seq _ b => b
  | c => c
def sI : C → C
  | .blk _ a => a
  | .loop a => a
  | c => c
noncomputable def c22l : C := sI (sI (sB (sA (sB (sB f22.body)))))
noncomputable def c22h : C := sB (sB (sB (sB (sB (sB (sI (sA (sB c22l))))))))
noncomputable def c22o : C := sI (sB (sA c22h))
noncomputable def c22a : C := sB c22h
def ERg (S : List UInt8) (X : Nat) (ws : List (List UInt8)) (k F E : Nat) : List V := (.s S :: .bad :: .p X 0 :: .ni :: .pu 1 (ws.map V.s) (.x ws.length) :: .i .i64 (k : Nat) :: .p F 0 :: .p E 0 :: List.replicate 86 .bad)
theorem aft {S : List UInt8} {X k F E : Nat} {ws : List (List UInt8)} {e : Ey} {f : Fm} {d bv : V} {tk : Option Nat} {s z : St} {Q : XM → List V → St → Prop} (hS : S.length ≤ 60000)
    (K : Kn s z [.ac 1 bv (e.b.map bV) tk, .ob true E (.c [.i .i64 e.k, .i .i64 e.a, .i .i64 e.n, bv] 0 (some 26)), .ob true F (.c [.s f.w, .b f.a, .b f.n, .b f.b, .i .i64 f.l, d] 0 (some 41)), .ob true X (.c [.i .i64 0, .i .i64 0, .i .i64 0, .ns] 0 (some 26))])
    (hfe : fmS e.k = some f) (heok : EyOk e) (hbl : e.b.length ≤ 100000)
    (hQn : ¬ (mayF f e = true ∧ lnF f e = S) → ∀ e' z', fg [0, 2, 3, 4, 5] e' = ERd S X ws k → Kn s z' [.ob true X (.c [.i .i64 0, .i .i64 0, .i .i64 0, .ns] 0 (some 26))] → Q .nrm e' z')
    (hQr : mayF f e = true → lnF f e = S → ∀ e' z', e'.getD 2 unV = .p X 0 → e'.getD 3 unV = .ni → Vwa (.ag [.i .i64 e.k, .i .i64 e.a, .i .i64 e.n, bv]) (eyV e) → Kn s z' [.ob true X (.c [.i .i64 e.k, .i .i64 e.a, .i .i64 e.n, bv] 0 (some 26))] → Q .ret e' z') :
    HM gt1 Tryz.prog s c22a (ERg S X ws k F E) z Q := by
  have hvw : Vwa (.ag [.i .i64 e.k, .i .i64 e.a, .i .i64 e.n, bv]) (eyV e) := .ag _ _ (.cons (.refl _) (.cons (.refl _) (.cons (.refl _) (.cons (K.vw .here) .nil))))
  conv => whnf
  refine kgo ?_; (repeat (first | intro (X:Nat) | intro (z:St) | intro (av:V) | intro (tk:Option Nat) | (intro (K1:Kn _ _ _); (try clear K); rename Kn _ _ _ => K))); conv => whnf
  refine ⟨_, _, up0 ((may_den e _ K.x).wka (.cons hvw .nil)), ?_⟩
  rw [mayS_of hfe]
  cases hmf : mayF f e <;> conv => whnf
  · refine kgo ?_; (repeat (first | intro (X:Nat) | intro (z:St) | intro (av:V) | intro (tk:Option Nat) | (intro (K1:Kn _ _ _); (try clear K); rename Kn _ _ _ => K))); conv => whnf
    exact hQn (fun h => by rw [hmf] at h; cases h.1) _ _ rfl (((K.drop0 rfl).drop0 rfl).drop0 rfl)
  refine kgo ?_; (repeat (first | intro (X:Nat) | intro (z:St) | intro (av:V) | intro (tk:Option Nat) | (intro (K1:Kn _ _ _); (try clear K); rename Kn _ _ _ => K))); conv => whnf
  refine ⟨_, _, (line_den e f hfe heok hbl _ K.x).wka (.cons hvw .nil), ?_⟩
  conv => whnf
  refine kgo ?_; (repeat (first | intro (X:Nat) | intro (z:St) | intro (av:V) | intro (tk:Option Nat) | (intro (K1:Kn _ _ _); (try clear K); rename Kn _ _ _ => K))); conv => whnf
  refine ⟨.s (S ++ [10]), (by
    show binV .add (.s S) (.s [10]) = _
    simp only [binV]
    rw [if_pos (by simp; omega)]), ?_⟩
  conv => whnf
  refine kgo ?_; (repeat (first | intro (X:Nat) | intro (z:St) | intro (av:V) | intro (tk:Option Nat) | (intro (K1:Kn _ _ _); (try clear K); rename Kn _ _ _ => K))); conv => whnf
  by_cases hln : lnF f e = S
  rotate_left
  · rw [show (lnF f e ++ [10] == S ++ [10]) = false from beq_eq_false_iff_ne.2 fun h => hln (List.append_cancel_right h)]
    conv => whnf
    refine kgo ?_; (repeat (first | intro (X:Nat) | intro (z:St) | intro (av:V) | intro (tk:Option Nat) | (intro (K1:Kn _ _ _); (try clear K); rename Kn _ _ _ => K))); conv => whnf
    exact hQn (fun h => hln h.2) _ _ rfl (((K.drop0 rfl).drop0 rfl).drop0 rfl)
  rw [show (lnF f e ++ [10] == S ++ [10]) = true from beq_iff_eq.2 (by rw [hln])]
  conv => whnf
  refine kgo ?_; (repeat (first | intro (X:Nat) | intro (z:St) | intro (av:V) | intro (tk:Option Nat) | (intro (K1:Kn _ _ _); (try clear K); rename Kn _ _ _ => K))); conv => whnf
  exact hQr hmf hln _ _ rfl rfl hvw (((K.drop0 rfl).drop0 rfl).drop0 rfl)
theorem aop_slTk {e : List V} {s : St} {x : Arg} {a b : UInt8} {l : List UInt8} (hx : x.ev e = .s (a :: b :: l)) : aop e s (.slS x none (some (.c (.i .i64 2)))) = some (.s [a, b], s) := by
  have h1 : bnd (l.length + 1 + 1) ((Arg.c (.i .i64 2)).ev e) = some 2 := bnd_nat (a := 2) (Nat.le_add_left 2 l.length)
  simp only [aop, hx, Option.map_some, Option.map_none]
  delta slb
  simp [h1]
theorem aop_slDr {e : List V} {s : St} {x : Arg} {a b : UInt8} {l : List UInt8} (hx : x.ev e = .s (a :: b :: l)) : aop e s (.slS x (some (.c (.i .i64 2))) none) = some (.s l, s) := by
  have h1 : bnd (l.length + 1 + 1) ((Arg.c (.i .i64 2)).ev e) = some 2 := bnd_nat (a := 2) (Nat.le_add_left 2 l.length)
  simp only [aop, hx, Option.map_some, Option.map_none]
  delta slb
  simp [h1]
theorem hx2_lt (a b : UInt8) : hx2 a b < 256 := by
  have h : ∀ c d, hxV c = some d → d < 16 := fun c d h => by
    unfold hxV at h
    split at h
    · simp at h; omega
    · split at h
      · split at h
        · rename_i h3; cases h; exact h3
        · cases h
      · cases h
  unfold hx2
  split
  · rename_i x y h1 h2
    have := h _ _ h1; have := h _ _ h2; omega
  · omega
theorem tailH {S q : List UInt8} {X k F E : Nat} {ws : List (List UInt8)} {f : Fm} {d : V} {A N : Int} {s z : St} {ca : C} {Q : XM → List V → St → Prop} (hq : q.length ≤ 60000)
    (K : Kn s z [.ac 1 .ns [] none, .ob true E (.c [.i .i64 (k : Nat), .i .i64 A, .i .i64 N, .ns] 0 (some 26)), .ob true F (.c [.s f.w, .b f.a, .b f.n, .b f.b, .i .i64 f.l, d] 0 (some 41)), .ob true X (.c [.i .i64 0, .i .i64 0, .i .i64 0, .ns] 0 (some 26))])
    (hQ : ∀ z' bv tk, Kn s z' [.ac 1 bv ((if f.b = true then hxP q else []).map bV) tk, .ob true E (.c [.i .i64 (k : Nat), .i .i64 A, .i .i64 N, bv] 0 (some 26)), .ob true F (.c [.s f.w, .b f.a, .b f.n, .b f.b, .i .i64 f.l, d] 0 (some 41)), .ob true X (.c [.i .i64 0, .i .i64 0, .i .i64 0, .ns] 0 (some 26))] → HM gt1 Tryz.prog s ca (ERg S X ws k F E) z' Q) :
    HM gt1 Tryz.prog s c22o (ERh S X ws k F E q) z (mB 2 (mS gt1 Tryz.prog s ca Q)) := by
  conv => whnf
  refine HM.loop gnm1 fun hg => ⟨fun m ev z' => ∃ (h dn : List UInt8) (bv : V) (tk : Option Nat), m = h.length ∧ ev = ERh S X ws k F E h ∧ dn.length + h.length ≤ 60000 ∧ (f.b = true → hxP q = dn ++ hxP h) ∧ (f.b = false → dn = []) ∧ Kn s z' [.ac 1 bv (dn.map bV) tk, .ob true E (.c [.i .i64 (k : Nat), .i .i64 A, .i .i64 N, bv] 0 (some 26)), .ob true F (.c [.s f.w, .b f.a, .b f.n, .b f.b, .i .i64 f.l, d] 0 (some 41)), .ob true X (.c [.i .i64 0, .i .i64 0, .i .i64 0, .ns] 0 (some 26))],
    ⟨q.length, fg [0, 2, 3, 4, 5, 6, 7, 9] _, _, WkM.fg hg, q, [], .ns, none, rfl, rfl, by simpa using hq, fun _ => rfl, fun _ => rfl, K⟩, ?_⟩
  clear K
  rintro m ev z1 ⟨h, dn, bv, tk, rfl, rfl, hdl, hd1, hd0, K⟩
  have fin : ∀ (e' : List V) (z' : St), fg [0, 2, 3, 4, 5, 6, 7] e' = ERg S X ws k F E → (f.b = true → hxP h = []) → Kn s z' [.ac 1 bv (dn.map bV) tk, .ob true E (.c [.i .i64 (k : Nat), .i .i64 A, .i .i64 N, bv] 0 (some 26)), .ob true F (.c [.s f.w, .b f.a, .b f.n, .b f.b, .i .i64 f.l, d] 0 (some 41)), .ob true X (.c [.i .i64 0, .i .i64 0, .i .i64 0, .ns] 0 (some 26))] → HM gt1 Tryz.prog s ca e' z' Q := fun e' z' he hh K => by
    refine HM.fgt gnm1 [0, 2, 3, 4, 5, 6, 7] fun _ => ?_
    rw [he]
    refine hQ z' bv tk (K.cast ?_)
    cases hb : f.b
    · rw [hd0 hb]; rfl
    · rw [hd1 hb, hh hb, List.append_nil]; rfl
  conv => whnf
  refine kgo ?_; (repeat (first | intro (X:Nat) | intro (z:St) | intro (av:V) | intro (tk:Option Nat) | (intro (K1:Kn _ _ _); (try clear K); rename Kn _ _ _ => K))); conv => whnf
  cases hfb : f.b <;> conv => whnf
  · refine kgx ?_; (repeat (first | intro (X:Nat) | intro (z:St) | intro (av:V) | intro (tk:Option Nat) | (intro (K1:Kn _ _ _); (try clear K); rename Kn _ _ _ => K))); conv => whnf
    exact fin _ _ rfl (fun h => by rw [hfb] at h; cases h) K
  refine kgo ?_; (repeat (first | intro (X:Nat) | intro (z:St) | intro (av:V) | intro (tk:Option Nat) | (intro (K1:Kn _ _ _); (try clear K); rename Kn _ _ _ => K))); conv => whnf
  have hd2 := hd1 hfb
  rcases h with _ | ⟨x, _ | ⟨y, h⟩⟩
  · conv => whnf
    refine kgx ?_; (repeat (first | intro (X:Nat) | intro (z:St) | intro (av:V) | intro (tk:Option Nat) | (intro (K1:Kn _ _ _); (try clear K); rename Kn _ _ _ => K))); conv => whnf
    exact fin _ _ rfl (fun _ => rfl) K
  · conv => whnf
    refine kgx ?_; (repeat (first | intro (X:Nat) | intro (z:St) | intro (av:V) | intro (tk:Option Nat) | (intro (K1:Kn _ _ _); (try clear K); rename Kn _ _ _ => K))); conv => whnf
    exact fin _ _ rfl (fun _ => rfl) K
  rw [show ltZ 1 (((x :: y :: h).length : Nat) : Int) = true by rw [ltZ_eq]; exact decide_eq_true (by simp; omega)]
  conv => whnf
  refine kgo ?_; (repeat (first | intro (X:Nat) | intro (z:St) | intro (av:V) | intro (tk:Option Nat) | (intro (K1:Kn _ _ _); (try clear K); rename Kn _ _ _ => K))); conv => whnf
  refine ⟨_, _, aop_slTk rfl, ?_⟩
  conv => whnf
  refine kgo ?_; (repeat (first | intro (X:Nat) | intro (z:St) | intro (av:V) | intro (tk:Option Nat) | (intro (K1:Kn _ _ _); (try clear K); rename Kn _ _ _ => K))); conv => whnf
  refine ⟨_, _, pub_den x y _ K.x, ?_⟩
  conv => whnf
  have e1 : wrapF .u8 ((hx2 x y : Nat) : Int) = (((UInt8.ofNat (hx2 x y)).toNat : Nat) : Int) := by
    have := hx2_lt x y
    rw [wId8 (by omega) (by omega), UInt8.toNat_ofNat', Nat.mod_eq_of_lt this]
  have hdl2 : (dn.map bV).length ≤ 60000 := by rw [List.length_map]; simp at hdl; omega
  refine kgo ?_; (repeat (first | intro (X:Nat) | intro (z:St) | intro (av:V) | intro (tk:Option Nat) | (intro (K1:Kn _ _ _); (try clear K); rename Kn _ _ _ => K))); conv => whnf
  refine ⟨_, _, aop_slDr rfl, ?_⟩
  conv => whnf
  refine kgo ?_; (repeat (first | intro (X:Nat) | intro (z:St) | intro (av:V) | intro (tk:Option Nat) | (intro (K1:Kn _ _ _); (try clear K); rename Kn _ _ _ => K))); conv => whnf
  intro hg'
  refine ⟨h.length, fg [0, 2, 3, 4, 5, 6, 7, 9] _, _, (by simp only [List.length_cons]; omega), WkM.fg hg', h, dn ++ [UInt8.ofNat (hx2 x y)], av, tk, rfl, rfl, ?_, fun _ => ?_, fun h => (by cases h), K.cast ?_⟩
  · simp at hdl ⊢; omega
  · rw [hd2]; simp [hxP]
  · rw [e1, List.map_append, hfb]; rfl
end Go.Proofs.YtbcapobkbgckbaaGreatDoor
