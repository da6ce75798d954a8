import Derived.Test.YthoojnjcdllgdaaGreatDoorShelf
import Derived.Deep.RegionHeld3
import Derived.RangeFuncRecord
/-
  How two pairs stand. No statement stands here.
-/
set_option linter.all false
namespace Go.Proofs.YthoojnjcdllgdaaGreatDoor
open Go Go.RowKit Go.Lib Go.Sort Go.Shelf Go.Proofs
set_option maxRecDepth 100000
set_option maxHeartbeats 4000000

def orI (p q : Int) : Int := if p = 0 then q else p
theorem or_calls (b : Nat) (p q : Int) (w : World) (h0 : w.cell? ⟨b, 0, none⟩ = some (.int .i64 p)) (h1 : w.cell? ⟨b, 1, none⟩ = some (.int .i64 q)) :
    Calls Tryz.prog 57 #[.slice (some ⟨b, 0, none⟩) 2 2] w fun e w' => e = .returned (.int .i64 (orI p q)) ∧ w' = w := by
  have t3 := Tryz.underlying3; have a3 := Tryz.isAgg3; have z3 := Tryz.sizeOf3; have v3 := Tryz.zeroValue3
  have t95 := Tryz.underlying101; have a95 := Tryz.isAgg101; have z95 := Tryz.sizeOf101; have v95 := Tryz.zeroValue101
  go_enter Tryz.func57, Tryz.ntmps57
  go_wp2
  refine wp_loop_rounds 3 ?_
  rw [rounds_succ]
  by_cases hp : p = 0
  · subst hp
    go_wp2
    rw [rounds_succ]
    by_cases hq : q = 0
    · subst hq
      go_wp2
      rw [rounds_succ]
      go_wp2
      go_ret
      exact ⟨rfl, rfl⟩
    · go_wp2
      go_ret
      exact ⟨by rw [orI, if_pos rfl]; rfl, rfl⟩
  · go_wp2
    go_ret
    exact ⟨by rw [orI, if_neg hp]; rfl, rfl⟩
theorem two_new (W : World) (n : Nat) (hn : W.heap.size = n) (p q : Value) (t : TypeId) : (W.alloc (.cells #[p, q] t)).drew.cell? ⟨n, 0, none⟩ = some p ∧ (W.alloc (.cells #[p, q] t)).drew.cell? ⟨n, 1, none⟩ = some q := by
  subst hn
  have h : (W.alloc (.cells #[p, q] t)).drew.heap[W.heap.size]? = some (.cells #[p, q] t (0, 0)) := World.alloc_heap_new W _
  exact ⟨by unfold World.cell?; rw [h]; rfl, by unfold World.cell?; rw [h]; rfl⟩
def cfP (x y : Int × Int) : Int := orI (Lib.compareInt x.1 y.1) (Lib.compareInt x.2 y.2)
theorem order_calls (x y : Int × Int) (W : World) : Calls Tryz.prog 39 #[.agg #[.int .i64 x.1, .int .i64 x.2], .agg #[.int .i64 y.1, .int .i64 y.2]] W fun e w' => e = .returned (.int .i64 (cfP x y)) ∧ ∃ q os', w' = grow (W.drewN q) os' := by
  have hcon := fun a b W' => AnyG.cmp_Compare_int Tryz.cmpP a b W'
  change ∀ a b W', Calls Tryz.prog 58 _ _ _ at hcon
  unfold cfP
  generalize Lib.compareInt = cI at hcon ⊢
  obtain ⟨x1, x2⟩ := x
  obtain ⟨y1, y2⟩ := y
  have mixed : Tryz.prog.follows .mixedOrders = true := by kernel_rfl
  have t3 := Tryz.underlying3; have a3 := Tryz.isAgg3; have z3 := Tryz.sizeOf3; have v3 := Tryz.zeroValue3
  have t95 := Tryz.underlying101; have a95 := Tryz.isAgg101; have z95 := Tryz.sizeOf101; have v95 := Tryz.zeroValue101
  have t103 := Tryz.underlying109; have a103 := Tryz.isAgg109; have z103 := Tryz.sizeOf109; have v103 := Tryz.zeroValue109
  go_enter Tryz.func39, Tryz.ntmps39
  go_wp2
  go_region_held3 (fun w' => w'.cell? ⟨W.heap.size, 0, none⟩ = some (.int .i64 x1) ∧ w'.cell? ⟨W.heap.size, 1, none⟩ = some (.int .i64 x2) ∧ w'.cell? ⟨W.heap.size + 1, 0, none⟩ = some (.int .i64 y1) ∧ w'.cell? ⟨W.heap.size + 1, 1, none⟩ = some (.int .i64 y2)) (go_keep)
    (first | (go_at_call 58; refine (hcon _ _ _).mono ?_; rintro e w' ⟨rfl, rfl⟩) | (go_at_call 57; refine (or_calls _ (cI x1 y1) (cI x2 y2) _ (two_new _ _ (by simp) _ _ _).1 (two_new _ _ (by simp) _ _ _).2).mono ?_; rintro e w' ⟨rfl, rfl⟩))
  go_wp2
  go_ret
  exact ⟨rfl, 1, _, by rw [alloc_eq_grow, alloc_eq_grow, alloc_eq_grow, grow_grow, grow_grow]; rfl⟩
end Go.Proofs.YthoojnjcdllgdaaGreatDoor
/-
  Sums by keys, plainly: a list sorted by keys, and a map, come to the same. No statement stands here.
-/
set_option linter.all false
namespace TallyP

structure Ord {K : Type} (lt : K → K → Bool) : Prop where
  irr : ∀ a, lt a a = false
  tr : ∀ a b c, lt a b = true → lt b c = true → lt a c = true
  tot : ∀ a b, lt a b = false → lt b a = false → a = b

section
variable {K S : Type} [DecidableEq K] {lt : K → K → Bool}

def insR (lt : K → K → Bool) (f : Option S → S) (k : K) : List (K × S) → List (K × S)
  | [] => [(k, f none)]
  | (a, s) :: r => if lt a k = true then (a, s) :: insR lt f k r else if a = k then (a, f (some s)) :: r else (k, f none) :: (a, s) :: r
def updM (f : Option S → S) (k : K) : List (K × S) → List (K × S)
  | [] => [(k, f none)]
  | (a, s) :: r => if a = k then (a, f (some s)) :: r else (a, s) :: updM f k r
def lkk (k : K) : List (K × S) → Option S
  | [] => none
  | (a, s) :: r => if a = k then some s else lkk k r
def keysL (l : List (K × S)) : List K := l.map (·.1)

theorem lkk_none {k : K} : ∀ {l : List (K × S)}, lkk k l = none ↔ k ∉ keysL l
  | [] => by simp [lkk, keysL]
  | (a, s) :: r => by
    have ih := lkk_none (k := k) (l := r)
    by_cases h : a = k
    · subst h; simp [lkk, keysL]
    · rw [lkk, if_neg h, ih]
      simp only [keysL, List.map_cons, List.mem_cons, not_or]
      exact ⟨fun h2 => ⟨fun e => h e.symm, h2⟩, fun h2 => h2.2⟩
theorem lkk_updM (f : Option S → S) (k x : K) : ∀ (l : List (K × S)), lkk x (updM f k l) = if x = k then some (f (lkk k l)) else lkk x l
  | [] => by
    by_cases h : x = k
    · subst h; simp [updM, lkk]
    · rw [if_neg h]; show (if k = x then _ else _) = _; rw [if_neg (fun e => h e.symm)]
  | (a, s) :: r => by
    have ih := lkk_updM f k x r
    by_cases h : a = k
    · subst h
      by_cases h2 : x = a
      · subst h2; simp [updM, lkk]
      · have h3 : ¬ a = x := fun e => h2 e.symm
        simp [updM, lkk, h2, h3]
    · rw [updM, if_neg h]
      by_cases h2 : a = x
      · subst h2; simp [lkk, h]
      · rw [lkk, if_neg h2, ih]
        simp [lkk, h, h2]
theorem keys_updM (f : Option S → S) (k : K) : ∀ (l : List (K × S)), keysL (updM f k l) = if k ∈ keysL l then keysL l else keysL l ++ [k]
  | [] => by simp [updM, keysL]
  | (a, s) :: r => by
    have ih := keys_updM f k r
    by_cases h : a = k
    · subst h; simp [updM, keysL]
    · rw [updM, if_neg h]
      show a :: keysL (updM f k r) = _
      rw [ih]
      by_cases h2 : k ∈ keysL r
      · rw [if_pos h2, if_pos (show k ∈ keysL ((a, s) :: r) from List.mem_cons_of_mem _ h2)]; rfl
      · rw [if_neg h2, if_neg (show k ∉ keysL ((a, s) :: r) from fun e => (List.mem_cons.1 e).elim (fun e => h e.symm) h2)]; rfl
theorem nodup_updM (f : Option S → S) (k : K) (l : List (K × S)) (h : (keysL l).Nodup) : (keysL (updM f k l)).Nodup := by
  rw [keys_updM]
  split
  · exact h
  · rename_i hk
    refine List.nodup_append.2 ⟨h, by simp, fun a ha b hb => ?_⟩
    simp at hb
    subst hb
    exact fun e => hk (e ▸ ha)
def Asc (lt : K → K → Bool) (l : List (K × S)) : Prop := (keysL l).Pairwise fun a b => lt a b = true
theorem lkk_lt (O : Ord lt) {k : K} : ∀ {l : List (K × S)}, (∀ a ∈ keysL l, lt k a = true) → lkk k l = none := fun {l} h => lkk_none.2 fun hk => by
  have := h k hk
  rw [O.irr] at this
  cases this
theorem insR_mem {f : Option S → S} {k x : K} : ∀ {l : List (K × S)}, x ∈ keysL (insR lt f k l) → x = k ∨ x ∈ keysL l
  | [], h => by simp [insR, keysL] at h; exact .inl h
  | (a, s) :: r, h => by
    unfold insR at h
    split at h
    · rcases List.mem_cons.1 h with h | h
      · exact .inr (List.mem_cons.2 (.inl h))
      · rcases insR_mem h with h | h
        · exact .inl h
        · exact .inr (List.mem_cons_of_mem _ h)
    · split at h
      · rename_i e; subst e; exact .inr h
      · rcases List.mem_cons.1 h with h | h
        · exact .inl h
        · exact .inr h
theorem asc_insR (O : Ord lt) (f : Option S → S) (k : K) : ∀ (l : List (K × S)), Asc lt l → Asc lt (insR lt f k l)
  | [], _ => by simp [insR, Asc, keysL]
  | (a, s) :: r, h => by
    have h1 := (List.pairwise_cons.1 h).1
    have h2 : Asc lt r := (List.pairwise_cons.1 h).2
    unfold insR
    split
    · rename_i hl
      refine List.pairwise_cons.2 ⟨fun b hb => ?_, asc_insR O f k r h2⟩
      rcases insR_mem hb with rfl | hb
      · exact hl
      · exact h1 b hb
    · rename_i hl
      split
      · exact h
      · rename_i hne
        have hka : lt k a = true := by
          cases hx : lt k a with
          | true => rfl
          | false => exact (hne (O.tot _ _ (by simpa using hl) hx)).elim
        refine List.pairwise_cons.2 ⟨fun b hb => ?_, h⟩
        rcases List.mem_cons.1 hb with rfl | hb
        · exact hka
        · exact O.tr _ _ _ hka (h1 b hb)
theorem lkk_insR (O : Ord lt) (f : Option S → S) (k x : K) : ∀ (l : List (K × S)), Asc lt l → lkk x (insR lt f k l) = if x = k then some (f (lkk k l)) else lkk x l
  | [], _ => by
    by_cases h : x = k
    · subst h; simp [insR, lkk]
    · rw [if_neg h]; show (if k = x then _ else _) = _; rw [if_neg (fun e => h e.symm)]
  | (a, s) :: r, h => by
    have h1 := (List.pairwise_cons.1 h).1
    have h2 : Asc lt r := (List.pairwise_cons.1 h).2
    have ih := lkk_insR O f k x r h2
    unfold insR
    split
    · rename_i hl
      have hak : a ≠ k := fun e => by subst e; rw [O.irr] at hl; cases hl
      by_cases hx : a = x
      · subst hx; simp [lkk, hak]
      · rw [lkk, if_neg hx, ih]; simp [lkk, hak, hx]
    · rename_i hl
      split
      · rename_i e
        subst e
        by_cases hx : x = a
        · subst hx; simp [lkk]
        · have h3 : ¬ a = x := fun e => hx e.symm
          simp [lkk, hx, h3]
      · rename_i hne
        have hka : lt k a = true := by
          cases hx : lt k a with
          | true => rfl
          | false => exact (hne (O.tot _ _ (by simpa using hl) hx)).elim
        have hn : lkk k ((a, s) :: r) = none := lkk_lt O fun b hb => by
          rcases List.mem_cons.1 hb with rfl | hb
          · exact hka
          · exact O.tr _ _ _ hka (h1 b hb)
        rw [hn]
        by_cases hx : x = k
        · subst hx; simp [lkk]
        · rw [if_neg hx]
          conv => lhs; unfold lkk
          rw [if_neg fun e => hx e.symm]
theorem asc_ext (O : Ord lt) : ∀ {a b : List K}, a.Pairwise (fun x y => lt x y = true) → b.Pairwise (fun x y => lt x y = true) → (∀ x, x ∈ a ↔ x ∈ b) → a = b
  | [], [], _, _, _ => rfl
  | [], y :: b, _, _, h => absurd ((h y).2 (List.mem_cons_self ..)) (by simp)
  | x :: a, [], _, _, h => absurd ((h x).1 (List.mem_cons_self ..)) (by simp)
  | x :: a, y :: b, ha, hb, h => by
    have ha1 := (List.pairwise_cons.1 ha).1
    have hb1 := (List.pairwise_cons.1 hb).1
    have e : x = y := by
      rcases List.mem_cons.1 ((h x).1 (List.mem_cons_self ..)) with e | hx
      · exact e
      · rcases List.mem_cons.1 ((h y).2 (List.mem_cons_self ..)) with e | hy
        · exact e.symm
        · have := O.tr _ _ _ (hb1 x hx) (ha1 y hy)
          rw [O.irr] at this; cases this
    subst e
    congr 1
    refine asc_ext O (List.pairwise_cons.1 ha).2 (List.pairwise_cons.1 hb).2 fun z => ⟨fun hz => ?_, fun hz => ?_⟩
    · rcases List.mem_cons.1 ((h z).1 (List.mem_cons_of_mem _ hz)) with e | h2
      · subst e; have := ha1 z hz; rw [O.irr] at this; cases this
      · exact h2
    · rcases List.mem_cons.1 ((h z).2 (List.mem_cons_of_mem _ hz)) with e | h2
      · subst e; have := hb1 z hz; rw [O.irr] at this; cases this
      · exact h2
theorem asc_look (O : Ord lt) (g : K → S) : ∀ {l : List (K × S)}, Asc lt l → (∀ k s, lkk k l = some s → g k = s) → (keysL l).map (fun k => (k, g k)) = l
  | [], _, _ => rfl
  | (a, s) :: r, h, hg => by
    have h1 := (List.pairwise_cons.1 h).1
    have h2 : Asc lt r := (List.pairwise_cons.1 h).2
    show (a, g a) :: (keysL r).map (fun k => (k, g k)) = _
    rw [hg a s (by simp [lkk]), asc_look O g h2 fun k t hk => hg k t (by
      have hka : k ∈ keysL r := Classical.byContradiction fun hn => by rw [lkk_none.2 hn] at hk; cases hk
      have hne : a ≠ k := fun e => by subst e; have := h1 a hka; rw [O.irr] at this; cases this
      rw [lkk, if_neg hne, hk])]
theorem same_sums (O : Ord lt) {L es : List (K × S)} {ss : List K} (g : K → S) (hL : Asc lt L) (hl : ∀ x, lkk x L = lkk x es) (hg : ∀ k s, lkk k es = some s → g k = s)
    (hs : ss.Pairwise fun x y => lt x y = true) (hm : ∀ x, x ∈ ss ↔ x ∈ keysL es) : ss.map (fun k => (k, g k)) = L := by
  have e : ss = keysL L := asc_ext O hs hL fun x => by
    rw [hm]
    exact ⟨fun h => Classical.byContradiction fun hn => by rw [← lkk_none, hl, lkk_none] at hn; exact hn h, fun h => Classical.byContradiction fun hn => by rw [← lkk_none, ← hl, lkk_none] at hn; exact hn h⟩
  rw [e]
  exact asc_look O g hL fun k s h => hg k s (by rw [← hl]; exact h)
theorem fold_same {E : Type} (O : Ord lt) (key : E → K) (f : E → Option S → S) : ∀ (evs : List E) (L es : List (K × S)), Asc lt L → (keysL es).Nodup → (∀ x, lkk x L = lkk x es) →
    Asc lt (evs.foldl (fun L e => insR lt (f e) (key e) L) L) ∧ (keysL (evs.foldl (fun l e => updM (f e) (key e) l) es)).Nodup ∧
      ∀ x, lkk x (evs.foldl (fun L e => insR lt (f e) (key e) L) L) = lkk x (evs.foldl (fun l e => updM (f e) (key e) l) es)
  | [], _, _, h1, h2, h3 => ⟨h1, h2, h3⟩
  | e :: evs, L, es, h1, h2, h3 => fold_same O key f evs _ _ (asc_insR O _ _ _ h1) (nodup_updM _ _ _ h2) fun x => by rw [lkk_insR O _ _ _ _ h1, lkk_updM, h3, h3]
end
def ltP (a b : Int × Int) : Bool := decide (a.1 < b.1) || (decide (a.1 = b.1) && decide (a.2 < b.2))
theorem ordP : Ord ltP where
  irr a := by simp [ltP]
  tr a b c h1 h2 := by simp [ltP] at *; omega
  tot a b h1 h2 := by
    simp [ltP] at h1 h2
    exact Prod.ext (by omega) (by omega)
def ltI (a b : Int) : Bool := decide (a < b)
theorem ordI : Ord ltI where
  irr a := by simp [ltI]
  tr a b c h1 h2 := by simp [ltI] at *; omega
  tot a b h1 h2 := by simp [ltI] at *; omega
end TallyP
