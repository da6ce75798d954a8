/-
  From what a law's function comes to here to what the statement asks.
-/
import Derived.Test.YtklgkdehnaecnaaDoorRfQ
import Derived.ProofKit
import Derived.Carry
set_option linter.all false
set_option linter.unusedSimpArgs false
namespace Rf
open Go Go.ChangeShapes Go.WideShapes Go.ChangeAt Go.RowKit

/-- at the beginning: every cell that there is is old -/
def cx0 (W : World) : Cx := { r := fun _ => default, tk := fun _ => default, fz := fun b o => (cellAt W.heap b o).isSome = true }
def s0 : St := { h := .e, n := 0 }

theorem s0_get (l : Nat) : s0.get l = none := by simp [St.get, s0, Tr.get]

theorem rel0 (W : World) : Rel (cx0 W) s0 W.heap where
  wf := fun l _ => s0_get l
  gl := fun l h => by simp [s0] at h
  obj := fun l o h => by rw [s0_get] at h; cases h
  inj := fun l _ o _ h => by rw [s0_get] at h; cases h
  fzl := fun b o h => h
  fzo := fun l _ _ _ h => by rw [s0_get] at h; cases h
  fzt := fun l _ h => by rw [s0_get] at h; cases h

structure Old (W W' : World) : Prop where
  os : W'.os = W.os
  out : W'.output = W.output
  size : W.heap.size ≤ W'.heap.size
  block : ∀ b, b < W.heap.size → W'.heap[b]? = W.heap[b]?

theorem old_of {W W' : World} {cx' : Cx} {s' : St} (E : Ext (cx0 W) s0 W.heap cx' s' W'.heap) (q : Qt W W') : Old W W' :=
  ⟨q.os, q.out, E.size, fun b hb => E.frame b hb (fun ⟨l, o, h, _⟩ => by rw [s0_get] at h; cases h)⟩

theorem Old.kept {W W' : World} (h : Old W W') (may : MemPlace → Prop) : W.keptBut W' may := by
  refine ⟨h.os, h.out, fun i hi => ?_⟩
  rw [h.block i hi]
  split
  · rename_i h1 h2
    rw [h1] at h2; cases h2
    exact ⟨rfl, rfl, rfl, fun _ _ => rfl⟩
  · rename_i h1 h2
    rw [h1] at h2; cases h2
    exact .inr ⟨rfl, rfl⟩
  · rfl

theorem Old.same {W W' : World} (h : Old W W') {p : MemPlace} (hp : p.block < W.heap.size) : W.sameAt W' p := by
  cases p with
  | cell b o => exact World.cell?_of_block (w := W) (h.block b hp)
  | map b => exact h.block b hp

section
variable {H : Type} {enc : TypeId × Value → H} {P : Program}

theorem trodAll_stays (hl : laidOutB P = true) {W W' : World} (h : Old W W') {sp : Nat → Bool} : ∀ {ts : List TypeId} {vs : List Value} {ds : List (DataW H)} {ps : List MemPlace},
    (ts.all fun t => P.readableRec t && decide (t < P.types.size)) = true → DataW.TrodAll enc P W 0 (fun _ => true) true ts vs ds ps → (∀ p ∈ ps, p.block < W.heap.size) → (∀ p ∈ ps, sp p.block = true) → DataW.TrodAll enc P W' 0 sp true ts vs ds ps
  | [], _, _, _, _, ht, _, _ => by
    obtain ⟨rfl, rfl, rfl⟩ := trodAll_nil ht
    exact rfl
  | t :: ts, _, _, _, hr, ht, hlt, hs => by
    obtain ⟨v, vs1, d, ds1, a, b, rfl, rfl, rfl, h1, h2⟩ := trodAll_cons ht
    simp only [List.all_cons, Bool.and_eq_true, decide_eq_true_eq] at hr
    exact ⟨a, b, WideElems.Trod_stays hl hr.1.1 hr.1.2 h1 (fun p hp => h.same (hlt p (List.mem_append_left _ hp))) (fun p hp => hs p (List.mem_append_left _ hp)),
      trodAll_stays hl h hr.2 h2 (fun p hp => hlt p (List.mem_append_right _ hp)) (fun p hp => hs p (List.mem_append_right _ hp)), rfl⟩

/-- 'post_of_same' (the kit's), of which 'frozen?' is asked of old blocks alone -/
theorem post_same {f : Func} {s : ChangeSpec} {apart fresh handsOn again : Bool} {W W' : World} {args : Array Value} {v : Value} {ds gs : List (DataW H)} {before pa pv : List MemPlace}
    (hW : DataW.Whole enc P f.params.toList s.vars apart W args.toList ds gs before)
    (hres : ∀ (b : Nat) (sp : Nat → Bool) (hd : Bool), DataW.TrodAll enc P W' b sp hd f.resultTypes.toList (v.resultList f.resultTypes.size) (s.fn H (ds ++ gs)).results [])
    (hargs : ∀ sp : Nat → Bool, (∀ p ∈ before, sp p.block = true) → DataW.TrodAll enc P W' 0 sp true f.params.toList args.toList (s.fn H (ds ++ gs)).args pa)
    (hvars : ∀ sp : Nat → Bool, (∀ p ∈ before, sp p.block = true) → DataW.TrodVars enc P W' sp s.vars (s.fn H (ds ++ gs)).vars pv)
    (hps : before = pa ++ pv) (hk : W.keptBut W' (· ∈ before)) (hfz : ∀ a : Addr, a.block < W.heap.size → W'.frozen? a = W.frozen? a)
    (hok : ∀ (j : Nat) (t : TypeId) (r : Value), f.resultTypes[j]? = some t → (v.resultList f.resultTypes.size)[j]? = some r → Value.okWide P W' .any 0 t r) :
    s.post enc P f apart fresh handsOn again W args v W' := by
  have hlt := hW.lt
  have hold : ∀ p ∈ before, (fun b => decide (b < W.heap.size)) p.block = true := fun p hp => by simpa using hlt p hp
  refine ⟨ds, gs, before, [], pa, pv, hW, hres _ _ _, hargs _ hold, hvars _ hold, World.keptBut_mono (fun p hp => ⟨hp, ?_⟩) hk, fun _ => ?_⟩
  · rw [hps, List.mem_append] at hp
    exact Or.inr hp
  · obtain ⟨_, _, _, _, _, hz, hn⟩ := hW
    refine ⟨hok, _, _, ([] ++ pa) ++ pv, ⟨[] ++ pa, pv, trodAll_append (hargs _ (fun _ _ => rfl)) (hres _ _ _), hvars _ (fun _ _ => rfl), rfl, ?_, ?_⟩, ?_⟩
    · intro b off hp
      have hp' : MemPlace.cell b off ∈ before := by rw [hps]; simpa using hp
      rw [hfz _ (hlt _ hp')]
      exact hz b off hp'
    · intro ha
      have := hn ha
      rw [hps] at this
      simpa using this
    · intro p hp _
      rw [hps]
      simpa using hp

/-- A law: its function comes to true. -/
theorem law_post {gt : Nat → Option V} {f : FuncId} {fn : Func} {s : ChangeSpec} {apart fresh handsOn again : Bool} {W : World} {args : Array Value} {ds gs : List (DataW H)} {before : List MemPlace} {vs : List V} {s' : St} {tb : TypeId}
    (hl : laidOutB P = true) (hr : (fn.params.toList.all fun t => P.readableRec t && decide (t < P.types.size)) = true) (hrt : fn.resultTypes = #[tb]) (htb : P.underlying tb = some .bool)
    (hvars : s.vars = []) (hfn : ∀ gs, (s.fn H (ds ++ gs)) = if gs = [] then { results := [.lit (.bool true)], args := ds } else s.fn H (ds ++ gs))
    (hW : DataW.Whole enc P fn.params.toList s.vars apart W args.toList ds gs before)
    (hG : GRep gt (cx0 W) W.heap s0.L) (hA : ARep (cx0 W) W.heap s0.L vs args) (hD : Den gt P f vs s0 (.b true) s') :
    Calls P f args W fun e W' => ∃ v, e = .returned v ∧ s.post enc P fn apart fresh handsOn again W args v W' := by
  refine (hD (cx0 W) W args (rel0 W) hG hA).mono fun e W' ⟨x, cx', h1, h2, h3, h4, h5⟩ => ?_
  have hO := old_of h4 h5
  cases h2
  refine ⟨_, h1, ?_⟩
  have hW' := hW
  obtain ⟨p, q, hA0, hV, rfl, hfz, hnd⟩ := hW
  rw [hvars] at hV
  obtain ⟨rfl, rfl⟩ := trodVars_none hV
  have e1 := hfn []
  rw [if_pos rfl] at e1
  have hlt := hW'.lt
  simp only [List.append_nil] at hlt
  refine post_same (pa := p) (pv := []) hW' (fun b sp hd => ?_) (fun sp hs => ?_) (fun sp hs => ?_) rfl (hO.kept _) (fun a ha => ?_) (ok_one hrt rfl (okWide_bool_mk htb _))
  · rw [e1, hrt]; exact trodAll_mk1 (shut_bool htb _)
  · rw [e1]
    simp only [List.append_nil] at hs
    exact trodAll_stays hl hO hr hA0 hlt hs
  · rw [e1, hvars]; exact rfl
  · unfold World.frozen?; rw [hO.block _ ha]

end
end Rf
