/-
  Regions with fresh objects: whatever the order.
-/
import Derived.Test.YtklgkdehnaecnaaDoorRfOa
set_option linter.all false
set_option linter.unusedSimpArgs false
namespace Rf
open Go

section
variable {gt : Nat → Option V} {P : Program}

theorem Row.store {cx : Cx} {h : Array Obj} {m : Nat → Prop} {cs vs : List V} {arr xs : Array Value} (r : Row cx h m cs arr) (r2 : Row cx h m vs xs) {o : Nat} (ho : o + vs.length ≤ cs.length) : Row cx h m (setAt cs o vs) (putAt arr o xs.toList) := by
  have hl : xs.toList.length = vs.length := by simp [r2.len]
  have key : ∀ j, j < cs.length → ((setAt cs o vs).getD j .bad = if o ≤ j ∧ j < o + vs.length then vs.getD (j - o) .bad else cs.getD j .bad) ∧
      ((putAt arr o xs.toList).getD j undef = if o ≤ j ∧ j < o + vs.length then xs.getD (j - o) undef else arr.getD j undef) := fun j hj => by
    have k1 := setAt_get vs cs o j ho
    have k2 := putAt_get xs.toList arr o j (by rw [hl, r.len]; omega)
    rw [hl] at k2
    by_cases hc : o ≤ j ∧ j < o + vs.length
    · rw [if_pos hc] at k1 k2
      rw [if_pos hc, if_pos hc]
      refine ⟨listGetD_eq k1, ?_⟩
      simp [Array.getD_eq_getD_getElem?, k2]
    · rw [if_neg hc] at k1 k2
      rw [if_neg hc, if_neg hc]
      exact ⟨listGetD_eq k1, arrGetD_eq k2⟩
  refine ⟨by rw [putAt_size, setAt_len]; exact r.len, fun j hj => ?_, fun j hj => ?_⟩
  · rw [setAt_len] at hj; rw [(key j hj).2]; split
    · exact r2.one _ (by omega)
    · exact r.one j hj
  · rw [setAt_len] at hj; rw [(key j hj).1, (key j hj).2]; split
    · exact r2.rep _ (by omega)
    · exact r.rep j hj

theorem RunD.slots {e' : List V} {s' : St} {t : Nat} : ∀ (l : List (Nat × I)) (hist : List St) (e : List V) (s : St), (∀ x ∈ l, x.2.d ≠ some t) → RunD gt P hist l e s e' s' → e'.getD t unV = e.getD t unV
  | [], hist, e, s, hd, h => by cases h; rfl
  | (b, x) :: l, hist, e, s, hd, h => by
    obtain ⟨v, s1, hs, hr⟩ := RunD.inv h
    rw [RunD.slots l _ _ _ (fun y hy => hd y (List.mem_cons_of_mem _ hy)) hr]
    have hx := hd (b, x) (List.mem_cons_self ..)
    simp only at hx
    cases hxd : x.d with
    | none => rfl
    | some d =>
      have : d ≠ t := fun h => hx (by rw [hxd, h])
      simp only [setD, List.getD]
      rw [List.getElem?_set_ne this]

theorem set_bad {e : List V} {t : Nat} (h : e.getD t unV = .bad) : e.set t .bad = e := by
  apply List.ext_getElem?
  intro j
  rw [List.getElem?_set]
  by_cases hj : t = j
  · subst hj
    rw [if_pos rfl]
    rw [List.getD] at h
    cases ht : e[t]? with
    | none => rw [ht] at h; cases h
    | some x =>
      rw [ht] at h
      have : x = .bad := h
      subst this
      rw [if_pos (List.getElem?_eq_some_iff.1 ht).1]
  · rw [if_neg hj]

theorem ERep.over {cx : Cx} {h : Array Obj} {n : Nat → Prop} {e : List V} {tmps : Array Value} (E : ERep gt cx h n e tmps) {t : Nat} (hb : e.getD t unV = .bad) (x : Value) : ERep gt cx h n e (tmps.setIfInBounds t x) := by
  have := E.set (.bad x) t
  rwa [set_bad hb] at this

theorem cI_guard {wh : Bool} {ops : Array Oper} {o : Oper} {y : I} (h : cI gt P wh ops o = some y) (hy : y.g = none) : o.guard = none := by
  unfold cI at h
  split at h
  · assumption
  · split at h
    · cases h; cases hy
    · cases h

/-- how many are left -/
def left (listed : Array Bool) (l : List Nat) : Nat := l.countP fun k => !(listed.getD k true)

theorem left_set {listed : Array Bool} {i : Nat} (hi : listed.getD i true = false) : ∀ (l : List Nat), l.Nodup → (i ∈ l → left (listed.setIfInBounds i true) l + 1 = left listed l) ∧ (i ∉ l → left (listed.setIfInBounds i true) l = left listed l)
  | [], _ => by simp [left]
  | k :: l, hn => by
    have hn' := List.nodup_cons.1 hn
    obtain ⟨h1, h2⟩ := left_set hi l hn'.2
    have hlt : i < listed.size := by
      rcases Nat.lt_or_ge i listed.size with h | h
      · exact h
      · rw [Array.getD_eq_getD_getElem?, Array.getElem?_eq_none h] at hi; simp at hi
    by_cases hk : k = i
    · subst hk
      have h3 := h2 hn'.1
      refine ⟨fun _ => ?_, fun h => (h (List.mem_cons_self ..)).elim⟩
      simp only [left, List.countP_cons] at h3 ⊢
      have e1 : (listed.setIfInBounds k true).getD k true = true := by simp [hlt]
      rw [e1, hi, h3]; simp
    · have e1 : (listed.setIfInBounds i true).getD k true = listed.getD k true := getD_set_ne true (fun h => hk h.symm)
      refine ⟨fun h => ?_, fun h => ?_⟩
      · have := h1 ((List.mem_cons.1 h).resolve_left (fun h => hk h.symm))
        simp only [left, List.countP_cons] at this ⊢
        rw [e1]; omega
      · have := h2 (fun hm => h (List.mem_cons_of_mem _ hm))
        simp only [left, List.countP_cons] at this ⊢
        rw [e1]; omega

structure Inv2 (ops : Array Oper) (L0 L : List Nb) (ps : List TP) (st : Nat → Ts) (listed : Array Bool) : Prop where
  sub : L.Sublist L0
  size : listed.size = ops.size
  memL : ∀ x ∈ L0, listed.getD x.1 true = false ↔ x.1 ∈ L.map (·.1)
  memA : ∀ p ∈ ps, listed.getD p.ia true = false ↔ st p.t = .n
  memS : ∀ p ∈ ps, listed.getD p.is true = false ↔ ∀ b arr, st p.t ≠ .s b arr
  closed : ∀ k, listed.getD k false = true → ∀ j, ((masks ops.toList []).getD k 0).testBit j = true → listed.getD j false = true

theorem flat_ne : ∀ {ps : List TP}, (tNums ps).Nodup → ∀ p ∈ ps, ∀ q ∈ ps, p.ia ≠ q.is ∧ (p.ia = q.ia → p = q) ∧ (p.is = q.is → p = q)
  | [], _, p, hp, _, _ => by simp at hp
  | x :: ps, hn, p, hp, q, hq => by
    have hl : tNums (x :: ps) = x.ia :: x.is :: tNums ps := rfl
    rw [hl] at hn
    obtain ⟨n1, n2⟩ := List.nodup_cons.1 hn
    obtain ⟨n3, n4⟩ := List.nodup_cons.1 n2
    have hin : ∀ r ∈ ps, r.ia ∈ tNums ps ∧ r.is ∈ tNums ps := fun r hr => ⟨List.mem_flatMap.2 ⟨r, hr, by simp⟩, List.mem_flatMap.2 ⟨r, hr, by simp⟩⟩
    rcases List.mem_cons.1 hp with hp1 | hp1 <;> rcases List.mem_cons.1 hq with hq1 | hq1
    · subst hp1; subst hq1; exact ⟨fun h => n1 (by rw [h]; exact List.mem_cons_self ..), fun _ => rfl, fun _ => rfl⟩
    · subst hp1; exact ⟨fun h => n1 (by rw [h]; exact List.mem_cons_of_mem _ (hin q hq1).2), fun h => (n1 (by rw [h]; exact List.mem_cons_of_mem _ (hin q hq1).1)).elim, fun h => (n3 (by rw [h]; exact (hin q hq1).2)).elim⟩
    · subst hq1; exact ⟨fun h => n3 (by rw [← h]; exact (hin p hp1).1), fun h => (n1 (by rw [← h]; exact List.mem_cons_of_mem _ (hin p hp1).1)).elim, fun h => (n3 (by rw [← h]; exact (hin p hp1).2)).elim⟩
    · exact flat_ne n4 p hp1 q hq1

theorem slot_inj : ∀ {ps : List TP}, (ps.map (·.t)).Nodup → ∀ p ∈ ps, ∀ q ∈ ps, p.t = q.t → p = q
  | [], _, p, hp, _, _, _ => by simp at hp
  | x :: ps, hn, p, hp, q, hq, h => by
    obtain ⟨n1, n2⟩ := List.nodup_cons.1 hn
    rcases List.mem_cons.1 hp with hp1 | hp1 <;> rcases List.mem_cons.1 hq with hq1 | hq1
    · rw [hp1, hq1]
    · subst hp1; exact (n1 (List.mem_map.2 ⟨q, hq1, h.symm⟩)).elim
    · subst hq1; exact (n1 (List.mem_map.2 ⟨p, hp1, h⟩)).elim
    · exact slot_inj n2 p hp1 q hq1 h

def upd (st : Nat → Ts) (t : Nat) (x : Ts) : Nat → Ts := fun k => if k = t then x else st k

/-- what the region has come to -/
structure Dn (gt : Nat → Option V) (cxb : Cx) (sb : St) (wb : World) (ps : List TP) (st : Nat → Ts) (cx : Cx) (e : List V) (s : St) (act : Act) (w : World) : Prop where
  E : ERep gt cx w.heap s.L e act.tmps
  hd : act.defers = []
  R : Rel cx s w.heap
  X : Ext cxb sb wb.heap cx s w.heap
  q : Qt wb w
  F : ∀ p ∈ ps, FrS cx w.heap s wb.heap.size act.tmps e p (st p.t)
  D : ∀ p ∈ ps, ∀ q ∈ ps, p ≠ q → ∀ b, (st p.t).b = some b → (st q.t).b ≠ some b
  B : ∀ p ∈ ps, e.getD p.t unV = .bad

theorem any_wp2 {wf : Nat → Bool} {ops : Array Oper} {is : List I} {L0 : List Nb} {ps : List TP} (S : St2 P gt wf ops is L0 ps) {Q : Exit → Act → World → Prop} {eM : List V} {sM : St} {cxb : Cx} {sb : St} {wb : World}
    (hval : ∀ p ∈ ps, (p.v.ev eM).isVal = true ∧ (p.v.ev eM).cells.length = p.z.length)
    (hQ : ∀ st cx act w, (∀ p ∈ ps, ∃ b arr, st p.t = .s b arr) → Dn gt cxb sb wb ps st cx eM sM act w → Q .normal act w) :
    ∀ (fuel : Nat) (L : List Nb) (st : Nat → Ts) (listed : Array Bool) (hist : List St) (e : List V) (s : St) (cx : Cx) (w : World) (act : Act),
    left listed (List.range ops.size) = fuel → Inv2 ops L0 L ps st listed → RunD gt P hist (L.map (·.2)) e s eM sM → Dn gt cxb sb wb ps st cx e s act w → wpAny P .any ops Q fuel listed act w := by
  have hnum := List.nodup_append.1 S.nd
  have hfl := flat_ne hnum.2.1
  have hTL : ∀ x ∈ L0, ∀ p ∈ ps, x.1 ≠ p.ia ∧ x.1 ≠ p.is := fun x hx p hp =>
    ⟨fun h => hnum.2.2 x.1 (List.mem_map.2 ⟨x, hx, rfl⟩) p.ia (List.mem_flatMap.2 ⟨p, hp, by simp⟩) h, fun h => hnum.2.2 x.1 (List.mem_map.2 ⟨x, hx, rfl⟩) p.is (List.mem_flatMap.2 ⟨p, hp, by simp⟩) h⟩
  have hltA : ∀ p ∈ ps, p.ia < ops.size ∧ p.is < ops.size := fun p hp =>
    ⟨S.lt _ (List.mem_append_right _ (List.mem_flatMap.2 ⟨p, hp, by simp⟩)), S.lt _ (List.mem_append_right _ (List.mem_flatMap.2 ⟨p, hp, by simp⟩))⟩
  have hltL : ∀ x ∈ L0, x.1 < ops.size := fun x hx => S.lt _ (List.mem_append_left _ (List.mem_map.2 ⟨x, hx, rfl⟩))
  intro fuel
  induction fuel with
  | zero =>
    intro L st listed hist e s cx w act hl I hr D
    have hall : ∀ k, k < ops.size → listed.getD k true = true := fun k hk => by
      have := List.countP_eq_zero.1 hl k (List.mem_range.2 hk)
      simpa using this
    have hL' : L = [] := by
      cases L with
      | nil => rfl
      | cons x L =>
        have hx0 := I.sub.subset (List.mem_cons_self ..)
        have := (I.memL x hx0).2 (by simp)
        rw [hall _ (hltL x hx0)] at this; cases this
    subst hL'
    refine ⟨?_, ?_⟩
    · rw [List.eq_nil_iff_forall_not_mem]
      intro j hj
      obtain ⟨h1, o, ho, -⟩ := mem_ready.1 hj
      rw [hall j (Array.getElem?_eq_some_iff.1 ho).1] at h1; cases h1
    · cases hr
      refine hQ st cx act w (fun p hp => ?_) D
      have h1 := I.memS p hp
      rw [hall _ (hltA p hp).2] at h1
      have : ¬ ∀ b arr, st p.t ≠ .s b arr := fun h => by have := h1.2 h; cases this
      cases hs : st p.t with
      | s b arr => exact ⟨b, arr, rfl⟩
      | _ => exact (this (fun b arr h => by rw [hs] at h; cases h)).elim
  | succ fuel ih =>
    intro L st listed hist e s cx w act hl I hr D
    refine ⟨fun hn => ?_, fun k hk => ?_⟩
    · -- something is ready
      exfalso
      have hpos : 0 < left listed (List.range ops.size) := by omega
      obtain ⟨k0, hk0, hk1⟩ := List.countP_pos_iff.1 hpos
      have hmin : ∃ k, k < ops.size ∧ listed.getD k true = false ∧ ∀ j, j < k → listed.getD j true = true := by
        have : ∀ n, ∀ k, k ≤ n → k < ops.size → listed.getD k true = false → ∃ k, k < ops.size ∧ listed.getD k true = false ∧ ∀ j, j < k → listed.getD j true = true := by
          intro n
          induction n with
          | zero => intro k hk h1 h2; exact ⟨k, h1, h2, fun j hj => by omega⟩
          | succ n ihn =>
            intro k hk h1 h2
            by_cases h : ∃ j, j < k ∧ listed.getD j true = false
            · obtain ⟨j, hj, hjf⟩ := h; exact ihn j (by omega) (by omega) hjf
            · exact ⟨k, h1, h2, fun j hj => by
                cases hb : listed.getD j true with
                | true => rfl
                | false => exact (h ⟨j, hj, hb⟩).elim⟩
        exact this k0 k0 (Nat.le_refl _) (List.mem_range.1 hk0) (by simpa using hk1)
      obtain ⟨k, hks, hkf, hmn⟩ := hmin
      have : k ∈ Region.ready .any ops listed := by
        refine mem_ready.2 ⟨hkf, ops[k], by simp [hks], fun ed he hb => ?_⟩
        have hon := backOk_get ops.toList 0 S.back k ops[k] (by simp [hks]) ed (by simpa using he) hb
        rw [getD_bool (by rw [I.size]; omega) false true]
        exact hmn _ (by omega)
      rw [hn] at this; cases this
    · obtain ⟨hun, o, ho, hedges⟩ := mem_ready.1 hk
      have hks : k < ops.size := (Array.getElem?_eq_some_iff.1 ho).1
      have hanc : ∀ j, ((masks ops.toList []).getD k 0).testBit j = true → listed.getD j false = true := fun j hj => by
        obtain ⟨o', ho', ed, he, hb, hj'⟩ := mask_bit hj
        have : o' = o := by
          have h1 : ops.toList[k]? = ops[k]? := by simp
          rw [h1, ho] at ho'; cases ho'; rfl
        subst this
        have hon := hedges ed (by simpa using he) hb
        rcases hj' with rfl | hj'
        · exact hon
        · exact I.closed _ hon j hj'
      have hft : ∀ j, j < ops.size → listed.getD j false = listed.getD j true := fun j hj => getD_bool (by rw [I.size]; exact hj) _ _
      have hleft : left (listed.setIfInBounds k true) (List.range ops.size) = fuel := by
        have := (left_set hun (List.range ops.size) List.nodup_range).1 (List.mem_range.2 hks)
        omega
      have hsz : (listed.setIfInBounds k true).size = ops.size := by simp [I.size]
      have hself : (listed.setIfInBounds k true).getD k true = true := by simp [I.size, hks]
      have hclosed : ∀ k', (listed.setIfInBounds k true).getD k' false = true → ∀ j, ((masks ops.toList []).getD k' 0).testBit j = true → (listed.setIfInBounds k true).getD j false = true := fun k' hkd j hj => by
        by_cases hkq : k = k'
        · subst hkq; exact getD_set_true (hanc j hj)
        · rw [getD_set_ne false hkq] at hkd
          exact getD_set_true (I.closed k' hkd j hj)
      obtain ⟨y, hy1, hy2⟩ : ∃ y, is[k]? = some y ∧ cI gt P (wf (0 + k)) ops o = some y := (cops_get _ _ _ S.his).2 k o (by simpa using ho)
      obtain ⟨hdst, hkk⟩ := cI_dk hy2
      rcases List.mem_append.1 (S.all k hks) with hkL | hkT
      · -- one of the others
        obtain ⟨q, hq0, hqk⟩ := List.mem_map.1 hkL
        subst hqk
        have hqL := (I.memL q hq0).1 hun
        obtain ⟨q', hq, hqq⟩ := List.mem_map.1 hqL
        have hqe : q' = q := by
          have h1 := hnum.1
          have hinj : ∀ (l : List Nb), (l.map (·.1)).Nodup → ∀ a ∈ l, ∀ b ∈ l, a.1 = b.1 → a = b := by
            intro l
            induction l with
            | nil => intro _ a ha; simp at ha
            | cons x l ihl =>
              intro hn a ha b hb hab
              obtain ⟨n1, n2⟩ := List.nodup_cons.1 hn
              rcases List.mem_cons.1 ha with ha1 | ha1 <;> rcases List.mem_cons.1 hb with hb1 | hb1
              · rw [ha1, hb1]
              · subst ha1; exact (n1 (List.mem_map.2 ⟨b, hb1, hab.symm⟩)).elim
              · subst hb1; exact (n1 (List.mem_map.2 ⟨a, ha1, hab⟩)).elim
              · exact ihl n2 a ha1 b hb1 hab
          exact hinj L0 h1 q' (I.sub.subset hq) q hq0 hqq
        subst hqe
        obtain ⟨L1, L2, rfl⟩ := List.append_of_mem hq
        have hnb : ∀ p ∈ L1, ((masks ops.toList []).getD q'.1 0).testBit p.1 = false := fun p hp => by
          cases hb : ((masks ops.toList []).getD q'.1 0).testBit p.1 with
          | false => rfl
          | true =>
            have h1 := hanc _ hb
            have hp0 := I.sub.subset (List.mem_append_left _ hp)
            rw [hft _ (hltL p hp0)] at h1
            have := (I.memL p hp0).2 (List.mem_map.2 ⟨p, List.mem_append_left _ hp, rfl⟩)
            rw [h1] at this; cases this
        have hcf := S.conf.sublist I.sub
        have hno : ∀ x ∈ L1.map (·.2), NoConf x.2 q'.2.2 := fun x hx => by
          obtain ⟨p, hp, rfl⟩ := List.mem_map.1 hx
          apply conf_no
          have := (List.pairwise_append.1 hcf).2.2 p hp q' (List.mem_cons_self ..)
          cases hc : conf p.2.2 q'.2.2 with
          | false => rfl
          | true => rw [hnb p hp] at this; exact (Bool.noConfusion (this hc))
        have hcnt : q'.2.2.k.cls = 1 → cnt2 (L1.map (·.2)) ≤ q'.2.1 := fun hc => by
          have hsub : (L1 ++ [q']).Sublist L0 := ((List.Sublist.refl L1).append (List.singleton_sublist.2 (List.mem_cons_self ..) : [q'].Sublist (q' :: L2))).trans I.sub
          have h1 := S.pre L1 q' hsub hc
          have h2 : cnt2 (L1.map (·.2)) = cntN (masks ops.toList []) q'.1 L1 := by
            unfold cnt2 cntN
            rw [List.filter_map, List.length_map]
            congr 1
            apply List.filter_congr
            intro p hp
            have h3 := hnb p hp
            simp only [Function.comp]
            rw [h3]; simp
          omega
        rw [List.map_append, List.map_cons] at hr
        obtain ⟨v, s1, hst, hr'⟩ := RunD.pull (b := q'.2.1) (y := q'.2.2) _ hist e s hr hno hcnt
        have hnd : ((L1 ++ q' :: L2).map (·.1)).Nodup := hnum.1.sublist (I.sub.map _)
        rw [List.map_append, List.map_cons] at hnd
        obtain ⟨-, g2, g3⟩ := List.nodup_append.1 hnd
        have hI : Inv2 ops L0 (L1 ++ L2) ps st (listed.setIfInBounds q'.1 true) := by
          refine ⟨((List.Sublist.refl L1).append (List.sublist_cons_self q' L2)).trans I.sub, hsz, fun x hx => ?_, fun p hp => ?_, fun p hp => ?_, hclosed⟩
          · rw [List.map_append]
            by_cases hxq : q'.1 = x.1
            · rw [← hxq, hself]
              simp only [Bool.true_eq_false, false_iff, List.mem_append]
              rintro (h | h)
              · exact g3 _ h _ (List.mem_cons_self ..) rfl
              · exact (List.nodup_cons.1 g2).1 h
            · rw [getD_set_ne true hxq, I.memL x hx, List.map_append, List.map_cons]
              simp only [List.mem_append, List.mem_cons]
              constructor
              · rintro (h | h | h)
                · exact .inl h
                · exact (hxq h.symm).elim
                · exact .inr h
              · rintro (h | h)
                · exact .inl h
                · exact .inr (.inr h)
          · rw [getD_set_ne true (hTL q' hq0 p hp).1]; exact I.memA p hp
          · rw [getD_set_ne true (hTL q' hq0 p hp).2]; exact I.memS p hp
        have hyq : y = q'.2.2 := by have := S.val q' hq0; rw [hy1] at this; cases this; rfl
        subst hyq
        rw [← List.map_append] at hr'
        have hap : ∀ p ∈ ps, o.dst ≠ some p.t := fun p hp => by rw [← hdst]; exact (S.ap p hp q' hq0).1
        have hslot : ∀ p ∈ ps, ∀ x : V, (setD e o.dst x).getD p.t unV = .bad := fun p hp x => by
          have hb := D.B p hp
          cases hod : o.dst with
          | none => exact hb
          | some d =>
            have : d ≠ p.t := fun h => hap p hp (by rw [hod, h])
            simp only [setD, List.getD] at hb ⊢
            rw [List.getElem?_set_ne this]; exact hb
        have htmp : ∀ p ∈ ps, ∀ x : Value, (act.put o.dst x).tmps.getD p.t undef = act.tmps.getD p.t undef := fun p hp x => by
          cases hod : o.dst with
          | none => rfl
          | some d =>
            have : d ≠ p.t := fun h => hap p hp (by rw [hod, h])
            simp only [Act.put, Array.getD_eq_getD_getElem?]
            rw [Array.getElem?_setIfInBounds_ne this]
        have hcont : ∀ p ∈ ps, ∀ x : V, ∀ b arr, st p.t = .s b arr → cont p (setD e o.dst x) = cont p e := fun p hp x b arr hs => by
          refine cont_congr (ag_setD (fun d hd hdv => ?_)).symm
          have h1 := (S.ap p hp q' hq0).2.2 d (by rw [hdst]; exact hd) hdv
          have h2 : listed.getD p.is true = true := by
            cases hb : listed.getD p.is true with
            | true => rfl
            | false => exact ((I.memS p hp).1 hb b arr hs).elim
          rw [← hft _ (hltA p hp).2] at h2
          have h3 := I.closed _ h2 _ h1
          rw [hft _ hks, hun] at h3; cases h3
        unfold wpOp
        simp only [ho]
        rcases hst with ⟨hw, rfl, rfl⟩ | ⟨hw, hkr, -⟩
        · rw [wanted_run D.E hy2 hw]
          simp only [Bool.false_eq_true, if_false]
          rw [hdst] at hr'
          exact ih _ st _ _ _ _ cx w _ hleft hI hr' ⟨D.E.setD (VRep.un _ _ _) o.dst, by rw [put_defers]; exact D.hd, D.R, D.X, D.q,
            fun p hp => (D.F p hp).step (.refl _ _ _) (fun _ _ => rfl) (fun _ _ h => h) (fun _ _ _ h => h) (htmp p hp _) (fun b arr hs => hcont p hp _ b arr hs), D.D, fun p hp => hslot p hp _⟩
        · rw [wanted_run D.E hy2 hw]
          simp only [if_true]
          left
          rw [hkk] at hkr
          rw [hdst] at hr'
          exact oper_run D.E D.hd D.R hkr (fun x w' cx' e1 e2 e3 e4 => ih _ st _ _ _ _ cx' w' _ hleft hI hr' ⟨e1, by rw [put_defers]; exact D.hd, e2, D.X.trans e3, D.q.trans e4,
            fun p hp => (D.F p hp).step e3.later (fun b hb => by obtain ⟨f1, f2, f3⟩ := (D.F p hp).b_lt hb; exact e3.frame b f1 f2)
              (fun b hb h => by obtain ⟨f1, f2, f3⟩ := (D.F p hp).b_lt hb; rcases e3.own b h with h | h; exact h; omega)
              (fun b hb oo h => by obtain ⟨f1, f2, f3⟩ := (D.F p hp).b_lt hb; rcases e3.nfz b oo h with h | h | h; exact h; exact (f2 h).elim; omega)
              (htmp p hp _) (fun b arr hs => hcont p hp _ b arr hs), D.D, fun p hp => hslot p hp _⟩)
      · obtain ⟨p, hp, hkp⟩ := List.mem_flatMap.1 hkT
        have hkp' : k = p.ia ∨ k = p.is := by simpa using hkp
        rcases hkp' with rfl | rfl
        · -- a new object
          have hst : st p.t = .n := (I.memA p hp).1 hun
          have hyp : y = p.ai := by have := (S.pa p hp).1; rw [hy1] at this; cases this; rfl
          subst hyp
          have hg : o.guard = none := cI_guard hy2 rfl
          have hop := (S.po p hp).1
          rw [ho] at hop
          obtain ⟨dst, op, oty, pos, after, guard⟩ := o
          simp only at hg hdst hkk; subst hg
          have hd' : dst = some p.t := hdst.symm
          subst hd'
          simp only [isAllocO] at hop
          split at hop
          · rename_i x0 t0
            obtain ⟨rfl, hz⟩ := cK_alloc hkk.symm
            obtain ⟨x, e1, e2, e3, e4⟩ := r_zero (P := P) w hz
            have hown : ¬ Own cx s w.heap.size := fun h => by have := D.R.own_lt h; omega
            have hnfz : ∀ oo, ¬ cx.fz w.heap.size oo := fun oo hf => by have := cellAt_lt (D.R.fzl _ _ hf); omega
            have hsame : ∀ b, b < w.heap.size → (w.heap.push (.cells x.cells p.ty))[b]? = w.heap[b]? := fun b hb => by rw [Array.getElem?_push_lt hb, Array.getElem?_eq_getElem hb]
            obtain ⟨R', later⟩ := D.R.foreign (h' := w.heap.push (.cells x.cells p.ty)) w.heap.size hown hnfz (by simp) (fun b hb _ => hsame b hb)
            unfold wpOp
            simp only [ho]
            have hwt : Region.wanted { dst := some p.t, op := Op.alloc p.ty, type := oty, pos := pos, after := after, guard := none } (yielded ops act.tmps) = true := rfl
            rw [hwt]
            simp only [if_true]
            left
            unfold Oper.wp
            have hrun : (execOp act.eval { dst := some p.t, op := Op.alloc p.ty, type := oty, pos := pos, after := after, guard := none }).run P w = .ok (.value (.pointer (some ⟨w.heap.size, 0, none⟩))) { w with heap := w.heap.push (.cells x.cells p.ty) } := by
              simp only [execOp, Instr.alloc, Sem.run_bind, e1, Result.andThen_ok, newVar, newRow_run, Sem.run_pure]
            rw [hrun]
            have hbsz : p.t < act.tmps.size := by
              have hb := D.B p hp
              have hlen := D.E.len
              rcases Nat.lt_or_ge p.t act.tmps.size with h | h
              · exact h
              · simp only [List.getD] at hb
                rw [List.getElem?_eq_none (by omega)] at hb; cases hb
            refine ih L (upd st p.t (.a w.heap.size x.cells)) _ hist e s cx _ _ hleft ⟨I.sub, hsz, fun z hz => ?_, fun q hq => ?_, fun q hq => ?_, hclosed⟩ hr ⟨(D.E.later later).over (D.B p hp) _, D.hd, R', ⟨D.X.later.trans later, Nat.le_trans D.X.size (by simp), fun b hb hno => ?_, D.X.own, D.X.nfz⟩, ⟨D.q.os, D.q.out⟩, fun q hq => ?_, fun q hq r hrr hne b hb => ?_, D.B⟩
            · rw [getD_set_ne true (fun h => (hTL z hz p hp).1 h.symm)]; exact I.memL z hz
            · by_cases hqp : q = p
              · subst hqp; rw [hself]; simp [upd]
              · have h1 : p.ia ≠ q.ia := fun h => hqp ((hfl p hp q hq).2.1 h).symm
                have h2 : q.t ≠ p.t := fun h => hqp (slot_inj S.tn q hq p hp h)
                rw [getD_set_ne true h1]; simp only [upd, if_neg h2]; exact I.memA q hq
            · have h1 : p.ia ≠ q.is := (hfl p hp q hq).1
              rw [getD_set_ne true h1]
              by_cases hqp : q = p
              · subst hqp; rw [I.memS q hq, hst]; simp [upd]
              · have h2 : q.t ≠ p.t := fun h => hqp (slot_inj S.tn q hq p hp h)
                simp only [upd, if_neg h2]; exact I.memS q hq
            · have hb' : b < w.heap.size := Nat.lt_of_lt_of_le hb D.X.size
              show (w.heap.push (.cells x.cells p.ty))[b]? = wb.heap[b]?
              rw [hsame b hb']; exact D.X.frame b hb hno
            · by_cases hqp : q = p
              · subst hqp
                simp only [upd, if_true]
                refine ⟨by simp, ⟨e2, e3, fun j hj => e4 cx _ s.L j hj⟩, hown, hnfz, D.X.size, ?_⟩
                simp only [Act.put, Array.getD_eq_getD_getElem?]
                rw [Array.getElem?_setIfInBounds_self_of_lt hbsz]; rfl
              · have h2 : q.t ≠ p.t := fun h => hqp (slot_inj S.tn q hq p hp h)
                simp only [upd, if_neg h2]
                refine (D.F q hq).step later (fun b hb => ?_) (fun _ _ h => h) (fun _ _ _ h => h) ?_ (fun _ _ _ => rfl)
                · exact hsame b ((D.F q hq).b_lt hb).1
                · simp only [Act.put, Array.getD_eq_getD_getElem?]
                  rw [Array.getElem?_setIfInBounds_ne (Ne.symm h2)]
            · by_cases hqp : q = p
              · subst hqp
                have h2 : r.t ≠ q.t := fun h => hne (slot_inj S.tn r hrr q hq h).symm
                simp only [upd, if_true, if_neg h2] at hb ⊢
                cases hb
                intro h
                have := ((D.F r hrr).b_lt h).1
                omega
              · have h2 : q.t ≠ p.t := fun h => hqp (slot_inj S.tn q hq p hp h)
                simp only [upd, if_neg h2] at hb ⊢
                by_cases hrp : r = p
                · subst hrp
                  simp only [if_true]
                  intro h
                  cases h
                  have := ((D.F q hq).b_lt hb).1
                  omega
                · have h3 : r.t ≠ p.t := fun h => hrp (slot_inj S.tn r hrr p hp h)
                  simp only [if_neg h3]
                  exact D.D q hq r hrr hne b hb
          · cases hop
        · -- its store
          have hs0 : ∀ b arr, st p.t ≠ .s b arr := (I.memS p hp).1 hun
          have hn0 : st p.t ≠ .n := fun h => by
            have h1 := (I.memA p hp).2 h
            have h2 := hanc _ (S.tm p hp)
            rw [hft _ (hltA p hp).1, h1] at h2; cases h2
          obtain ⟨b, arr, hst⟩ : ∃ b arr, st p.t = .a b arr := by
            cases h : st p.t with
            | n => exact (hn0 h).elim
            | a b arr => exact ⟨b, arr, rfl⟩
            | s b arr => exact (hs0 b arr h).elim
          have F : Fr cx w.heap s wb.heap.size act.tmps p p.z b arr := by have := D.F p hp; rw [hst] at this; exact this
          have hyp : y = p.si := by have := (S.pa p hp).2; rw [hy1] at this; cases this; rfl
          subst hyp
          have hg : o.guard = none := cI_guard hy2 rfl
          have hop := (S.po p hp).2
          rw [ho] at hop
          obtain ⟨dst, op, oty, pos, after, guard⟩ := o
          simp only at hg hdst hkk; subst hg
          have hd' : dst = none := hdst.symm
          subst hd'
          simp only [isStoreO] at hop
          split at hop
          · rename_i x0 T a' x'
            obtain ⟨hsz', rfl, hx⟩ := cK_store hkk.symm
            have agv : Ag p.v.ts e eM := fun t ht => (RunD.slots _ _ _ _ (fun z hz => by
              obtain ⟨z', hz', rfl⟩ := List.mem_map.1 hz
              intro hd
              have hz0 := I.sub.subset hz'
              have h1 := hanc _ ((S.ap p hp z' hz0).2.2 t hd ht)
              rw [hft _ (hltL z' hz0)] at h1
              have := (I.memL z' hz0).2 (List.mem_map.2 ⟨z', hz', rfl⟩)
              rw [h1] at this; cases this) hr).symm
            obtain ⟨v1, v2⟩ := hval p hp
            rw [← agv.arg] at v1 v2
            have hrep := arg_rep D.E hx
            have r := hrep.row v1
            have hl : (act.eval x').cells.toList.length = p.z.length := by simp [r.len, v2]
            obtain ⟨w', e1, e2, e3⟩ := r_storeCells (P := P) b 0 p.ty 0 0 (act.eval x').cells.toList 0 arr w F.heap (by rw [hl, F.row.len]; omega) (fun j _ _ => by omega) (mem_toList_one fun j hj => r.one j (by rw [← r.len]; exact hj))
            have hblt : b < w.heap.size := lt_of_get F.heap
            have hsame : ∀ b', b' ≠ b → w'.heap[b']? = w.heap[b']? := fun b' hne => by rw [e2, Array.getElem?_setIfInBounds_ne (Ne.symm hne)]
            obtain ⟨R', later⟩ := D.R.foreign (h' := w'.heap) b F.own F.nfz (by rw [e2]; simp) (fun b' _ hne => hsame b' hne)
            have hsz2 : (act.eval x').cells.size = p.z.length := by simpa using hl
            have hst1 : (Instr.storeAt T (.pointer (some ⟨b, 0, none⟩)) (act.eval x')).run P w = .ok () w' := by
              simp only [Instr.storeAt, Instr.sureAddr, Sem.run_bind, Sem.run_pure, Result.andThen_ok, storeVar, r_size w hsz', hsz2, ne_eq, not_true, if_false, e1]
            unfold wpOp
            simp only [ho]
            have hwt : Region.wanted { dst := none, op := Op.store T (.tmp p.t) x', type := oty, pos := pos, after := after, guard := none } (yielded ops act.tmps) = true := rfl
            rw [hwt]
            simp only [if_true]
            left
            unfold Oper.wp
            have hev : act.eval (.tmp p.t) = .pointer (some ⟨b, 0, none⟩) := F.tmp
            have hrun : (execOp act.eval { dst := none, op := Op.store T (.tmp p.t) x', type := oty, pos := pos, after := after, guard := none }).run P w = .ok .skip w' := by
              simp only [execOp, hev, Sem.run_bind, hst1, Result.andThen_ok, Sem.run_pure]
            rw [hrun]
            refine ih L (upd st p.t (.s b (putAt arr 0 (act.eval x').cells.toList))) _ hist e s cx _ _ hleft ⟨I.sub, hsz, fun z hz => ?_, fun q hq => ?_, fun q hq => ?_, hclosed⟩ hr ⟨D.E.later later, D.hd, R', ⟨D.X.later.trans later, Nat.le_trans D.X.size (by rw [e2]; simp), fun b' hb' hno => ?_, D.X.own, D.X.nfz⟩, D.q.trans e3, fun q hq => ?_, fun q hq r' hrr hne b' hb' => ?_, D.B⟩
            · rw [getD_set_ne true (fun h => (hTL z hz p hp).2 h.symm)]; exact I.memL z hz
            · have h1 : p.is ≠ q.ia := fun h => (hfl q hq p hp).1 h.symm
              rw [getD_set_ne true h1]
              by_cases hqp : q = p
              · subst hqp; rw [I.memA q hq, hst]; simp [upd]
              · have h2 : q.t ≠ p.t := fun h => hqp (slot_inj S.tn q hq p hp h)
                simp only [upd, if_neg h2]; exact I.memA q hq
            · by_cases hqp : q = p
              · subst hqp; rw [hself]; simp [upd]
              · have h1 : p.is ≠ q.is := fun h => hqp ((hfl p hp q hq).2.2 h).symm
                have h2 : q.t ≠ p.t := fun h => hqp (slot_inj S.tn q hq p hp h)
                rw [getD_set_ne true h1]; simp only [upd, if_neg h2]; exact I.memS q hq
            · have hne : b' ≠ b := by have := F.ge; omega
              rw [hsame b' hne]; exact D.X.frame b' hb' hno
            · by_cases hqp : q = p
              · subst hqp
                simp only [upd, if_true]
                refine ⟨by rw [e2]; simp [hblt], (F.row.later later).store (r.later later) (by rw [v2]; omega), F.own, F.nfz, F.ge, F.tmp⟩
              · have h2 : q.t ≠ p.t := fun h => hqp (slot_inj S.tn q hq p hp h)
                simp only [upd, if_neg h2]
                refine (D.F q hq).step later (fun b' hb' => hsame b' (fun h => ?_)) (fun _ _ h => h) (fun _ _ _ h => h) rfl (fun _ _ _ => rfl)
                subst h
                exact D.D q hq p hp hqp b' hb' (by rw [hst]; rfl)
            · by_cases hqp : q = p
              · subst hqp
                have h2 : r'.t ≠ q.t := fun h => hne (slot_inj S.tn r' hrr q hq h).symm
                simp only [upd, if_true, if_neg h2] at hb' ⊢
                exact D.D q hq r' hrr hne b' (by rw [hst]; exact hb')
              · have h2 : q.t ≠ p.t := fun h => hqp (slot_inj S.tn q hq p hp h)
                simp only [upd, if_neg h2] at hb' ⊢
                by_cases hrp : r' = p
                · subst hrp
                  simp only [if_true]
                  have := D.D q hq r' hrr hne b' hb'
                  rw [hst] at this; exact this
                · have h3 : r'.t ≠ p.t := fun h => hrp (slot_inj S.tn r' hrr p hp h)
                  simp only [if_neg h3]
                  exact D.D q hq r' hrr hne b' hb'
          · cases hop


/-- the fresh objects taken in -/
theorem adopt {cxb : Cx} {sb : St} {wb : World} {ps : List TP} {st : Nat → Ts} {cx : Cx} {eM e1 e' : List V} {sM s' : St} {act : Act} {w : World} (D : Dn gt cxb sb wb ps st cx eM sM act w) (hs : ∀ p ∈ ps, ∃ b arr, st p.t = .s b arr)
    (hn : (ps.map (·.t)).Nodup) (hag : AgX (ps.map (·.t)) e1 eM) (hcont : ∀ p ∈ ps, cont p e1 = cont p eM) (T : Tail e1 sM e' s' ps) :
    ∃ cx', ERep gt cx' w.heap s'.L e' act.tmps ∧ act.defers = [] ∧ Rel cx' s' w.heap ∧ Ext cxb sb wb.heap cx' s' w.heap ∧ Qt wb w := by
  have hF : ∀ i p, ps[i]? = some p → ∃ b arr, st p.t = .s b arr ∧ Fr cx w.heap sM wb.heap.size act.tmps p (cont p eM) b arr := fun i p hp => by
    have hm := List.mem_of_getElem? hp
    obtain ⟨b, arr, h⟩ := hs p hm
    have := D.F p hm
    rw [h] at this
    exact ⟨b, arr, h, this⟩
  let rr : Nat → Rw := fun l => match ps[l - sM.n]? with
    | some p => (match st p.t with
      | .s b arr => ⟨b, 0, (cont p eM).length, arr.size⟩
      | _ => default)
    | none => default
  let cx' : Cx := { cx with r := fun l => if sM.n ≤ l ∧ l < sM.n + ps.length then rr l else cx.r l }
  have hold : ∀ l, l < sM.n → cx'.r l = cx.r l := fun l hl => if_neg (by omega)
  have hnew : ∀ i p b arr, ps[i]? = some p → st p.t = .s b arr → cx'.r (sM.n + i) = ⟨b, 0, (cont p eM).length, arr.size⟩ := fun i p b arr hp h => by
    have hi : i < ps.length := (List.getElem?_eq_some_iff.1 hp).1
    show (if sM.n ≤ sM.n + i ∧ sM.n + i < sM.n + ps.length then rr (sM.n + i) else cx.r (sM.n + i)) = _
    rw [if_pos (by omega)]
    simp only [rr]
    rw [Nat.add_sub_cancel_left, hp]
    simp only [h]
  have hL : ∀ l, s'.L l ↔ l < sM.n + ps.length ∧ l ∉ sM.g := fun l => by unfold St.L; rw [T.n, T.g]
  have hgetO : ∀ l, l < sM.n → s'.get l = sM.get l := fun l hl => T.old l (.inl hl)
  have hgetN : ∀ i p, ps[i]? = some p → s'.get (sM.n + i) = some (.c (cont p eM) 0 (some p.ty)) := fun i p hp => by rw [T.obj i p hp, hcont p (List.mem_of_getElem? hp)]
  have later : Later cx w.heap sM.L cx' w.heap s'.L := ⟨fun l hl => (hL l).2 ⟨by have := hl.1; omega, hl.2⟩, fun l hl => hold l hl.1, fun _ _ => .inl rfl, fun _ _ h => h, fun _ _ _ => rfl⟩
  -- which object
  have hcase : ∀ l o, s'.get l = some o → (l < sM.n ∧ sM.get l = some o) ∨ ∃ i p, l = sM.n + i ∧ ps[i]? = some p ∧ o = .c (cont p eM) 0 (some p.ty) := fun l o hg => by
    rcases Nat.lt_or_ge l sM.n with h | h
    · exact .inl ⟨h, by rw [← hgetO l h]; exact hg⟩
    · rcases Nat.lt_or_ge l (sM.n + ps.length) with h2 | h2
      · right
        have hi : l - sM.n < ps.length := by omega
        refine ⟨l - sM.n, ps[l - sM.n], by omega, by simp [hi], ?_⟩
        have h3 := hgetN (l - sM.n) ps[l - sM.n] (by simp [hi])
        rw [show sM.n + (l - sM.n) = l by omega, hg] at h3
        cases h3; rfl
      · rw [T.old l (.inr h2)] at hg
        have := D.R.name_lt hg
        omega
  have hblk : ∀ l o, l < sM.n → blk cx' l o = blk cx l o := fun l o hl => by cases o <;> simp only [blk, hold l hl] <;> rfl
  have R' : Rel cx' s' w.heap := by
    refine ⟨fun l hl => ?_, fun l hl => ?_, fun l o hg => ?_, fun l l' o o' h1 h2 hne => ?_, D.R.fzl, fun l cs z ty hg oo hf => ?_, fun l e hg oo hf => ?_⟩
    · cases hg : s'.get l with
      | none => rfl
      | some o =>
        rcases hcase l o hg with ⟨h1, h2⟩ | ⟨i, p, rfl, h2, -⟩
        · have := D.R.name_L h2
          exact (hl (later.nle l this)).elim
        · have hi : i < ps.length := (List.getElem?_eq_some_iff.1 h2).1
          exact (hl ((hL _).2 ⟨by omega, fun h => by have := D.R.gl _ h; omega⟩)).elim
    · rw [T.g] at hl; rw [T.n]; have := D.R.gl l hl; omega
    · rcases hcase l o hg with ⟨h1, h2⟩ | ⟨i, p, rfl, h2, rfl⟩
      · have h3 := D.R.obj l o h2
        cases o with
        | c cs z ty =>
          obtain ⟨arr, el, lo, hi, a1, a2, a3, a4, a5⟩ := h3
          exact ⟨arr, el, lo, hi, by rw [hold l h1]; exact a1, by rw [hold l h1]; exact a2, by rw [hold l h1]; exact a3, fun j hj => by rw [hold l h1]; exact (a4 j hj).later later, by rw [hold l h1]; exact a5⟩
        | t e => exact h3
        | x o => show (cx'.r l).d = 0 ∧ XRep cx' w.heap s'.L (cx'.r l).b o; rw [hold l h1]; exact ⟨h3.1, XRep.later later rfl h3.2⟩
      · obtain ⟨b, arr, h3, F⟩ := hF i p h2
        have hr := hnew i p b arr h2 h3
        refine ⟨arr, p.ty, 0, 0, by rw [hr]; exact F.heap, ?_, fun j hj => ?_, fun j hj => ?_, fun j _ _ => by omega⟩
        · rw [hr]; exact ⟨by simp [F.row.len], rfl, rfl, fun T' hT => by cases hT; exact ⟨rfl, rfl, .inl rfl⟩⟩
        · rw [hr]; simpa using F.row.one j hj
        · rw [hr]; simpa using (F.row.rep j hj).later later
    · rcases hcase l o h1 with ⟨a1, a2⟩ | ⟨i, p, rfl, a2, rfl⟩ <;> rcases hcase l' o' h2 with ⟨b1, b2⟩ | ⟨i', p', rfl, b2, rfl⟩
      · rw [hblk l o a1, hblk l' o' b1]; exact D.R.inj l l' o o' a2 b2 hne
      · obtain ⟨b, arr, h3, F⟩ := hF i' p' b2
        rw [hblk l o a1]
        simp only [blk, hnew i' p' b arr b2 h3]
        exact fun h => F.own ⟨l, o, a2, h⟩
      · obtain ⟨b, arr, h3, F⟩ := hF i p a2
        rw [hblk l' o' b1]
        simp only [blk, hnew i p b arr a2 h3]
        exact fun h => F.own ⟨l', o', b2, h.symm⟩
      · obtain ⟨b, arr, h3, F⟩ := hF i p a2
        obtain ⟨b', arr', h3', F'⟩ := hF i' p' b2
        simp only [blk, hnew i p b arr a2 h3, hnew i' p' b' arr' b2 h3']
        intro hbb
        have hpp : p ≠ p' := fun h => by
          subst h
          have h4 : (ps.map (·.t))[i]? = (ps.map (·.t))[i']? := by simp [a2, b2]
          have hi : i < (ps.map (·.t)).length := by simpa using (List.getElem?_eq_some_iff.1 a2).1
          have := (List.getElem?_inj hi hn).1 h4
          omega
        exact D.D p (List.mem_of_getElem? a2) p' (List.mem_of_getElem? b2) hpp b (by rw [h3]; rfl) (by rw [h3', hbb]; rfl)
    · rcases hcase l _ hg with ⟨h1, h2⟩ | ⟨i, p, rfl, h2, h4⟩
      · rw [hold l h1] at hf; exact D.R.fzo l cs z ty h2 oo hf
      · obtain ⟨b, arr, h3, F⟩ := hF i p h2
        rw [hnew i p b arr h2 h3] at hf
        exact F.nfz oo hf
    · rcases hcase l _ hg with ⟨h1, h2⟩ | ⟨i, p, rfl, h2, h4⟩
      · exact D.R.fzt l e h2 oo hf
      · cases h4
  refine ⟨cx', ⟨fun g v hg => (D.E.gl g v hg).later later, by rw [T.len, hag.1]; exact D.E.len, fun t => ?_⟩, D.hd, R', ⟨D.X.later.trans later, D.X.size, D.X.frame, fun b ⟨l, o, hg, hb⟩ => ?_, D.X.nfz⟩, D.q⟩
  · by_cases ht : t ∈ ps.map (·.t)
    · obtain ⟨p, hp, rfl⟩ := List.mem_map.1 ht
      obtain ⟨i, hi⟩ := List.getElem?_of_mem hp
      obtain ⟨b, arr, h3, F⟩ := hF i p hi
      have hlt : p.t < e1.length := by
        rw [hag.1, D.E.len]
        rcases Nat.lt_or_ge p.t act.tmps.size with h | h
        · exact h
        · have := F.tmp
          rw [Array.getD_eq_getD_getElem?, Array.getElem?_eq_none h] at this
          cases this
      rw [T.slot i p hi hlt, F.tmp]
      have : VRep cx' w.heap s'.L (.p (sM.n + i) 0) (.pointer (some ⟨(cx'.r (sM.n + i)).b, (cx'.r (sM.n + i)).d + 0, none⟩)) := .p _ _ (R'.name_L (hgetN i p hi))
      rw [hnew i p b arr hi h3] at this
      exact this
    · rw [T.out t ht, hag.2 t ht]
      exact (D.E.rep t).later later
  · rcases hcase l o hg with ⟨h1, h2⟩ | ⟨i, p, rfl, h2, rfl⟩
    · rw [hblk l o h1] at hb
      exact D.X.own b ⟨l, o, h2, hb⟩
    · obtain ⟨b', arr, h3, F⟩ := hF i p h2
      simp only [blk, hnew i p b' arr h2 h3] at hb
      rw [← hb]; exact .inr F.ge

/-- some slots forgotten -/
def forget (T : List Nat) (e : List V) : List V := T.foldl (fun e t => e.set t .bad) e
theorem forget_len : ∀ (T : List Nat) (e : List V), (forget T e).length = e.length
  | [], e => rfl
  | t :: T, e => by show (forget T (e.set t .bad)).length = _; rw [forget_len T]; simp
theorem forget_get : ∀ (T : List Nat) (e : List V) (j : Nat), (forget T e).getD j unV = if j ∈ T ∧ j < e.length then .bad else e.getD j unV
  | [], e, j => by simp [forget]
  | t :: T, e, j => by
    show (forget T (e.set t .bad)).getD j unV = _
    rw [forget_get T, List.length_set]
    by_cases h1 : j ∈ T ∧ j < e.length
    · rw [if_pos h1, if_pos ⟨List.mem_cons_of_mem _ h1.1, h1.2⟩]
    · rw [if_neg h1]
      by_cases h2 : j = t
      · subst h2
        by_cases h3 : j < e.length
        · rw [if_pos ⟨List.mem_cons_self .., h3⟩]; simp [List.getD, h3]
        · rw [if_neg (fun h => h3 h.2)]
          simp only [List.getD]
          rw [List.getElem?_eq_none (by simp; omega), List.getElem?_eq_none (by omega)]
      · rw [if_neg (fun h => h1 ⟨(List.mem_cons.1 h.1).resolve_left h2, h.2⟩)]
        simp only [List.getD]
        rw [List.getElem?_set_ne (Ne.symm h2)]


theorem RunD.len {e' : List V} {s' : St} : ∀ (l : List (Nat × I)) (hist : List St) (e : List V) (s : St), RunD gt P hist l e s e' s' → e'.length = e.length
  | [], hist, e, s, h => by cases h; rfl
  | (b, x) :: l, hist, e, s, h => by
    obtain ⟨v, s1, hs, hr⟩ := RunD.inv h
    rw [RunD.len l _ _ _ hr]
    cases x.d <;> simp [setD]

theorem drw1_any {wf : Nat → Nat → Bool} {id : Nat} {ops : Array Oper} {is : List I} {l : List (Nat × I)} {e : List V} {s : St} {Q : X → List V → St → Prop} {e' : List V} {s' : St} (hm : P.follows .mixedOrders = true) (his : cOps gt P (wf id) ops 0 ops.toList = some is) (hl' : cDrw1 ops.toList is = some l)
    (hr : RunD gt P [] l e s e' s') (h : Q .nrm e' s') (cx : Cx) (w : World) (act : Act) (E : ERep gt cx w.heap s.L e act.tmps) (hd : act.defers = []) (R : Rel cx s w.heap) :
    ∀ t, wpOps P ops (fun ex a' w' => ∃ x e' s', exitOf x = ex ∧ Q x e' s' ∧ After gt cx s w e' s' a' w') (Region.schedule (P.follows .mixedOrders) ops t) act { w with drawn := w.drawn + 1 } := by
  obtain ⟨L, h1, S⟩ := st0_of his hl'
  have hlen : L.length = ops.size := by
    have h2 : (L.map (·.1)).length ≤ ops.size := by
      have : ∀ (l : List Nat) (n : Nat), l.Nodup → (∀ x ∈ l, x < n) → l.length ≤ n := fun l n hn hl => by
        have := (List.nodup_range (n := n)).length_le_of_subset (l₂ := l)
        have h3 : l ⊆ List.range n := fun x hx => List.mem_range.2 (hl x hx)
        have h4 := List.Nodup.length_le_of_subset hn h3
        simpa using h4
      exact this _ _ S.nd (fun x hx => by obtain ⟨p, hp, rfl⟩ := List.mem_map.1 hx; exact S.lt p hp)
    have h3 : ops.size ≤ (L.map (·.1)).length := by
      have h4 : List.range ops.size ⊆ L.map (·.1) := fun x hx => S.all x (List.mem_range.1 hx)
      have := List.Nodup.length_le_of_subset List.nodup_range h4
      simpa using this
    simp at h2 h3; omega
  intro t
  simp only [Region.schedule, hm, Bool.true_or, if_true]
  refine wpAny_sound ops.size t _ act _ ?_
  refine any_wp S ops.size L _ [] e s cx { w with drawn := w.drawn + 1 } act hlen ?_ (by rw [h1]; exact hr) E hd R (fun a' w' ⟨cx', x1, x2, x3, x4, x5⟩ => ⟨.nrm, e', s', rfl, h, cx', x1, x2, x3, x4, ⟨x5.os, x5.out⟩⟩)
  refine ⟨.refl _, by simp, fun k => ?_, fun k hk => ?_⟩
  · by_cases hk : k < ops.size
    · simp [hk]; exact by simpa using S.all k hk
    · simp only [Array.getD_eq_getD_getElem?, Array.getElem?_replicate, hk, if_false, Option.getD_none, Bool.true_eq_false, false_iff]
      intro hm
      obtain ⟨p, hp, rfl⟩ := List.mem_map.1 hm
      exact hk (S.lt p hp)
  · exfalso
    rw [Array.getD_eq_getD_getElem?, Array.getElem?_replicate] at hk
    split at hk <;> simp at hk

theorem drw2_any {wf : Nat → Nat → Bool} {id : Nat} {ops : Array Oper} {is : List I} {l : List (Nat × I)} {e : List V} {s : St} {Q : X → List V → St → Prop} {e' : List V} {s' : St} (hm : P.follows .mixedOrders = true) (his : cOps gt P (wf id) ops 0 ops.toList = some is) (hl' : cDrw2 ops.toList is = some l)
    (hr : RunD gt P [] l e s e' s') (h : Q .nrm e' s') (cx : Cx) (w : World) (act : Act) (E : ERep gt cx w.heap s.L e act.tmps) (hd : act.defers = []) (R : Rel cx s w.heap) :
    ∀ t, wpOps P ops (fun ex a' w' => ∃ x e' s', exitOf x = ex ∧ Q x e' s' ∧ After gt cx s w e' s' a' w') (Region.schedule (P.follows .mixedOrders) ops t) act { w with drawn := w.drawn + 1 } := by
  obtain ⟨L, ps, rfl, S⟩ := st2_of his hl'
  obtain ⟨hist1, e1, sM, h1, h2⟩ := RunD.split _ _ _ _ hr
  have T := tail_run ps _ _ _ S.tn S.tv h2
  have hfor : AgX (ps.map (·.t)) e (forget (ps.map (·.t)) e) := ⟨(forget_len _ _).symm, fun t ht => by rw [forget_get, if_neg (fun h => ht h.1)]⟩
  obtain ⟨eM, h3, hAg⟩ := RunD.agree (T := ps.map (·.t)) _ _ _ _ _ (fun x hx t ht => by
    obtain ⟨z, hz, rfl⟩ := List.mem_map.1 hx
    obtain ⟨p, hp, rfl⟩ := List.mem_map.1 ht
    exact (S.ap p hp z hz).2.1) hfor h1
  have agv : ∀ p ∈ ps, Ag p.v.ts e1 eM := fun p hp t ht => hAg.2 t (fun hm => by
    obtain ⟨q, hq, rfl⟩ := List.mem_map.1 hm
    exact S.tv p hp q hq ht)
  have hlen1 : e1.length = e.length := RunD.len _ _ _ _ h1
  intro t
  simp only [Region.schedule, hm, Bool.true_or, if_true]
  refine wpAny_sound ops.size t _ act _ ?_
  refine any_wp2 S (eM := eM) (sM := sM) (cxb := cx) (sb := s) (wb := { w with drawn := w.drawn + 1 }) (fun p hp => by rw [← (agv p hp).arg]; exact T.val p hp)
    (fun st cx2 act2 w2 hs D => ?_) ops.size L (fun _ => .n) _ [] (forget (ps.map (·.t)) e) s cx { w with drawn := w.drawn + 1 } act ?_ ?_ h3 ?_
  · obtain ⟨cx', x1, x2, x3, x4, x5⟩ := adopt D hs S.tn hAg (fun p hp => cont_congr (agv p hp)) T
    exact ⟨.nrm, e', s', rfl, h, cx', x1, x2, x3, x4, ⟨x5.os, x5.out⟩⟩
  · unfold left
    rw [List.countP_eq_length.2]
    · simp
    · intro k hk
      have : k < ops.size := List.mem_range.1 hk
      simp [this]
  · have hf : ∀ k, k < ops.size → (Array.replicate ops.size false).getD k true = false := fun k hk => by simp [hk]
    refine ⟨.refl _, by simp, fun x hx => ?_, fun p hp => ?_, fun p hp => ?_, fun k hk => ?_⟩
    · rw [hf _ (S.lt _ (List.mem_append_left _ (List.mem_map.2 ⟨x, hx, rfl⟩)))]
      exact ⟨fun _ => List.mem_map.2 ⟨x, hx, rfl⟩, fun _ => rfl⟩
    · rw [hf _ (S.lt _ (List.mem_append_right _ (List.mem_flatMap.2 ⟨p, hp, by simp⟩)))]
      exact ⟨fun _ => rfl, fun _ => rfl⟩
    · rw [hf _ (S.lt _ (List.mem_append_right _ (List.mem_flatMap.2 ⟨p, hp, by simp⟩)))]
      exact ⟨fun _ b arr h => (by cases h), fun _ => rfl⟩
    · exfalso
      rw [Array.getD_eq_getD_getElem?, Array.getElem?_replicate] at hk
      split at hk <;> simp at hk
  · refine ⟨E.forg ⟨forget_len _ _, fun t ht => ?_⟩, hd, R, .refl _ _ _, .rfl, fun p hp => trivial, fun p hp q hq _ b hb => (by cases hb), fun p hp => ?_⟩
    · rw [forget_get]
      split
      · exact .inr rfl
      · exact .inl rfl
    · rw [forget_get, if_pos ⟨List.mem_map.2 ⟨p, hp, rfl⟩, by rw [← hlen1]; exact T.lt p hp⟩]

/-- a region that draws its order, in any of its orders -/
theorem drw_any {wf : Nat → Nat → Bool} {id : Nat} {ops : Array Oper} {is : List I} {l : List (Nat × I)} {e : List V} {s : St} {Q : X → List V → St → Prop} {e' : List V} {s' : St} (hm : P.follows .mixedOrders = true) (his : cOps gt P (wf id) ops 0 ops.toList = some is) (hl' : cDrw ops.toList is = some l)
    (hr : RunD gt P [] l e s e' s') (h : Q .nrm e' s') (cx : Cx) (w : World) (act : Act) (E : ERep gt cx w.heap s.L e act.tmps) (hd : act.defers = []) (R : Rel cx s w.heap) :
    ∀ t, wpOps P ops (fun ex a' w' => ∃ x e' s', exitOf x = ex ∧ Q x e' s' ∧ After gt cx s w e' s' a' w') (Region.schedule (P.follows .mixedOrders) ops t) act { w with drawn := w.drawn + 1 } := by
  unfold cDrw at hl'
  split at hl'
  · rename_i l2 h2
    cases hl'
    exact drw1_any (id := id) hm his h2 hr h cx w act E hd R
  · exact drw2_any (id := id) hm his hl' hr h cx w act E hd R

theorem Co.drw {wf : Nat → Nat → Bool} {e : List V} {s : St} {Q : X → List V → St → Prop} {l : List (Nat × I)} {e' : List V} {s' : St} (hm : P.follows .mixedOrders = true) (hr : RunD gt P [] l e s e' s') (h : Q .nrm e' s') : Co gt P wf (.drw l) e s Q := by
  intro code hc cx w act E hd R
  cases code with
  | region id ops draw =>
    simp only [cC] at hc
    split at hc
    · rename_i is his
      split at hc
      · rename_i hdr
        split at hc
        · rename_i l' hl'
          cases hc
          subst hdr
          unfold cDrw at hl'
          split at hl'
          · rename_i l2 h2
            cases hl'
            exact wp_region_draw (drw1_any (id := id) hm his h2 hr h cx w act E hd R)
          · exact wp_region_draw (drw2_any (id := id) hm his hl' hr h cx w act E hd R)
        · cases hc
      · cases hc
    · cases hc
  | cond c a b => simp only [cC] at hc; split at hc <;> cases hc
  | _ => simp only [cC] at hc; cases hc

end
end Rf
