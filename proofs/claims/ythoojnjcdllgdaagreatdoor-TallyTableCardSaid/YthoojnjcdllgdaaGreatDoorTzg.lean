import Derived.Test.YthoojnjcdllgdaaGreatDoorTsm
import Derived.Test.YthoojnjcdllgdaaGreatDoorTmu
import Derived.Test.YthoojnjcdllgdaaGreatDoorTkn
import Derived.Test.YthoojnjcdllgdaaGreatDoorTzs
import Derived.Test.YthoojnjcdllgdaaGreatDoorToh
/-
  A window of twice a length is two of them, plainly. No statement stands here.
-/
set_option linter.all false
namespace Go.Proofs.YthoojnjcdllgdaaGreatDoor
open Go Rf TallyP
set_option maxRecDepth 100000
set_option maxHeartbeats 4000000

theorem much_ok : ∀ (ms : List Mv) (L i : Nat) (c : Int), L = i + ms.length → muchGo L ms i c = false → L ≤ 80 ∧ ∀ m ∈ ms, -1152921504606846976 ≤ m.t ∧ m.t ≤ 1152921504606846976
  | [], L, i, c, hL, h => by
    simp only [muchGo, Bool.or_eq_false_iff, ltZ_eq, decide_eq_false_iff_not] at h
    exact ⟨by omega, fun m hm => by cases hm⟩
  | m :: r, L, i, c, hL, h => by
    unfold muchGo at h
    by_cases hi : leZ i 80 = true
    · rw [if_pos hi] at h
      by_cases ht : ltZ m.t (-1152921504606846976) = true ∨ ltZ 1152921504606846976 m.t = true
      · rw [if_pos ht] at h; cases h
      · rw [if_neg ht] at h
        obtain ⟨h1, h2⟩ := much_ok r L (i + 1) _ (by rw [hL, List.length_cons]; omega) h
        refine ⟨h1, fun x hx => ?_⟩
        rcases List.mem_cons.1 hx with rfl | hx
        · simp only [ltZ_eq, decide_eq_true_eq, not_or] at ht
          omega
        · exact h2 x hx
    · rw [if_neg hi] at h
      exfalso
      simp only [leZ_eq, decide_eq_true_eq] at hi
      simp only [Bool.or_eq_false_iff, ltZ_eq, decide_eq_false_iff_not] at h
      rw [List.length_cons] at hL
      omega
end Go.Proofs.YthoojnjcdllgdaaGreatDoor
/-
  Contracts: lengths that are none. No statement stands here.
-/
set_option linter.all false
namespace Go.Proofs.YthoojnjcdllgdaaGreatDoor
open Go Rf TallyP
set_option maxRecDepth 100000
set_option maxHeartbeats 4000000

theorem none_nm {n : Nat → Prop} : Nm n (.tu [.pu 3 [] .u, .i .i64 2]) := .tu _ fun c hc => by
  simp only [List.mem_cons, List.not_mem_nil, or_false] at hc
  rcases hc with rfl | rfl
  · exact .pu _ _ _ (fun v hv => by cases hv) (fun k hk => by cases hk)
  · exact .i _ _
theorem spans8_no (a : V) (len : Int) (hl : ltZ len 1 = true) (s : St) (hx : NoX s) : Den gt0 Tryz.prog 10 [a, .i .i64 len] s (.tu [.pu 3 [] .u, .i .i64 2]) s := by
  refine Den.tidy fun hty => Den.hm gnm0 hF10 ?_
  have K := Kn.init hty.1 hx
  conv => whnf
  refine kgo ?_; (repeat (first | intro (X:Nat) | intro (z:St) | intro (av:V) | intro (tk:Option Nat) | (intro (K1:Kn _ _ _); (try clear K); rename Kn _ _ _ => K))); conv => whnf
  rw [hl]
  conv => whnf
  refine kgo ?_; (repeat (first | intro (X:Nat) | intro (z:St) | intro (av:V) | intro (tk:Option Nat) | (intro (K1:Kn _ _ _); (try clear K); rename Kn _ _ _ => K))); conv => whnf
  exact K.fin hty hx none_nm (.tus _ _ (.cons (.one (.ns 3)) (.cons (.one (.refl _)) .nil)))
theorem spans9_no (a : V) (len : Int) (hl : ltZ len 1 = true) (s : St) (hx : NoX s) : Den gt0 Tryz.prog 17 [a, .i .i64 len] s (.tu [.pu 3 [] .u, .i .i64 2]) s := by
  refine Den.tidy fun hty => Den.hm gnm0 hF17m ?_
  have K := Kn.init hty.1 hx
  conv => whnf
  refine kgo ?_; (repeat (first | intro (X:Nat) | intro (z:St) | intro (av:V) | intro (tk:Option Nat) | (intro (K1:Kn _ _ _); (try clear K); rename Kn _ _ _ => K))); conv => whnf
  rw [hl]
  conv => whnf
  refine kgo ?_; (repeat (first | intro (X:Nat) | intro (z:St) | intro (av:V) | intro (tk:Option Nat) | (intro (K1:Kn _ _ _); (try clear K); rename Kn _ _ _ => K))); conv => whnf
  exact K.fin hty hx none_nm (.tus _ _ (.cons (.one (.ns 3)) (.cons (.one (.refl _)) .nil)))
def rwV (x : Rw2) : V := .ag (c3 x)
theorem sp_rw (len : Int) (ms : List Mv) : (spR (gaI (fun m => fromW len m.t) ms)).map spV = (refR len (evs ms)).map rwV := by
  rw [← rows_same, List.map_map]; rfl
theorem spans8w_den (ms : List Mv) (len : Int) (hl : 0 < len) (hl2 : len ≤ 4503599627370496) (hms : ms.length ≤ 1000) (hn : ∀ m ∈ ms, Nm s0.L m.v) (ht : ∀ m ∈ ms, -1152921504606846976 ≤ m.t ∧ m.t ≤ 1152921504606846976) (s : St) (hx : NoX s) :
    Den gt0 Tryz.prog 10 [.pu 47 (ms.map Mv.v) .u, .i .i64 len] s (.tu [.pu 3 ((refR len (evs ms)).map rwV) .u, .i .i64 0]) s := by
  have h := spans8_den ms len hl hl2 hms hn ht s hx
  rwa [sp_rw] at h
end Go.Proofs.YthoojnjcdllgdaaGreatDoor
/-
  The table's lines. No statement stands here.
-/
set_option linter.all false
namespace Go.Proofs.YthoojnjcdllgdaaGreatDoor
open Go Rf TallyP
set_option maxRecDepth 100000
set_option maxHeartbeats 4000000

theorem wr_rng (x : Int) : i64 (wrapF .i64 x) := by unfold i64; rw [wI]; omega
theorem all_ins {K S : Type} [DecidableEq K] {lt : K → K → Bool} {pk : K → Prop} {ps : S → Prop} {f : Option S → S} {k : K} (hk : pk k) (h0 : ps (f none)) (h1 : ∀ s, ps s → ps (f (some s))) : ∀ l : List (K × S), (∀ x ∈ l, pk x.1 ∧ ps x.2) → ∀ x ∈ insR lt f k l, pk x.1 ∧ ps x.2
  | [], _, x, hx => by simp [insR] at hx; subst hx; exact ⟨hk, h0⟩
  | (a, s) :: r, h, x, hx => by
    have ha := h (a, s) (List.mem_cons_self ..)
    have hr : ∀ x ∈ r, pk x.1 ∧ ps x.2 := fun x hx => h x (List.mem_cons_of_mem _ hx)
    unfold insR at hx
    split at hx
    · rcases List.mem_cons.1 hx with rfl | hx
      · exact ha
      · exact all_ins hk h0 h1 r hr x hx
    · split at hx
      · rcases List.mem_cons.1 hx with rfl | hx
        · exact ⟨ha.1, h1 _ ha.2⟩
        · exact hr x hx
      · rcases List.mem_cons.1 hx with rfl | hx
        · exact ⟨hk, h0⟩
        · exact h x hx
theorem all_fold {K S : Type} [DecidableEq K] {lt : K → K → Bool} {pk : K → Prop} {ps : S → Prop} {f : Mv → Option S → S} {key : Mv → K} : ∀ (es : List Mv), (∀ m ∈ es, pk (key m) ∧ ps (f m none) ∧ ∀ s, ps s → ps (f m (some s))) → ∀ l : List (K × S), (∀ x ∈ l, pk x.1 ∧ ps x.2) → ∀ x ∈ es.foldl (fun L e => insR lt (f e) (key e) L) l, pk x.1 ∧ ps x.2
  | [], _, l, hl, x, hx => hl x hx
  | m :: es, h, l, hl, x, hx => by
    obtain ⟨h1, h2, h3⟩ := h m (List.mem_cons_self ..)
    exact all_fold es (fun m hm => h m (List.mem_cons_of_mem _ hm)) _ (all_ins h1 h2 h3 l hl) x hx
theorem wf_i64 {n : Int} (h : (Lit.int .i64 n).wf = true) : i64 n := by
  have : -9223372036854775808 ≤ n ∧ n ≤ 9223372036854775807 := by simpa [Lit.wf, IntKind.min, IntKind.max, IntKind.bits, IntKind.signed] using h
  exact this
def tmOk (m : Mv) : Prop := -1152921504606846976 ≤ m.t ∧ m.t ≤ 1152921504606846976
theorem tm_i64 {m : Mv} (h : tmOk m) : i64 m.t := by unfold tmOk at h; unfold i64; omega
theorem okP (es : List Mv) (h : ∀ m ∈ es, m.wf ∧ tmOk m) : ∀ x ∈ refP es, i64 x.1 ∧ (i64 x.2.1 ∧ i64 x.2.2.1 ∧ i64 x.2.2.2.1 ∧ i64 x.2.2.2.2) :=
  all_fold (pk := i64) (ps := fun s : Sm => i64 s.1 ∧ i64 s.2.1 ∧ i64 s.2.2.1 ∧ i64 s.2.2.2) es (fun m hm => ⟨wf_i64 (h m hm).1.2.1, ⟨(show i64 (wrapF .i64 (0 + 1)) from wr_rng _), (show i64 (wrapF .i64 (0 + ((m.rl.length : Nat) : Int))) from wr_rng _), tm_i64 (h m hm).2, tm_i64 (h m hm).2⟩, fun s hs => ⟨(show i64 (wrapF .i64 (s.1 + 1)) from wr_rng _), (show i64 (wrapF .i64 (s.2.1 + ((m.rl.length : Nat) : Int))) from wr_rng _), hs.2.2.1, tm_i64 (h m hm).2⟩⟩) [] (fun x hx => by cases hx)
theorem okK (es : List Mv) (h : ∀ m ∈ es, m.wf ∧ tmOk m) : ∀ x ∈ refK es, (i64 x.1.1 ∧ i64 x.1.2) ∧ (i64 x.2.1 ∧ i64 x.2.2) :=
  all_fold (pk := fun k : Int × Int => i64 k.1 ∧ i64 k.2) (ps := fun s : Int × Int => i64 s.1 ∧ i64 s.2) es (fun m hm => ⟨⟨wf_i64 (h m hm).1.2.1, wf_i64 (h m hm).1.2.2⟩, ⟨(show i64 (wrapF .i64 (0 + 1)) from wr_rng _), (show i64 (wrapF .i64 (0 + ((m.rl.length : Nat) : Int))) from wr_rng _)⟩, fun s hs => ⟨(show i64 (wrapF .i64 (s.1 + 1)) from wr_rng _), (show i64 (wrapF .i64 (s.2 + ((m.rl.length : Nat) : Int))) from wr_rng _)⟩⟩) [] (fun x hx => by cases hx)
theorem okF (es : List Mv) (h : ∀ m ∈ es, m.wf ∧ tmOk m) : ∀ x ∈ refF es, (i64 x.1.1 ∧ i64 x.1.2) ∧ i64 x.2 :=
  all_fold (pk := fun k : Int × Int => i64 k.1 ∧ i64 k.2) (ps := fun s : Int => i64 s) es (fun m hm => ⟨⟨wf_i64 (h m hm).1.1, wf_i64 (h m hm).1.2.1⟩, (show i64 (wrapF .i64 (0 + 1)) from wr_rng _), fun s hs => (show i64 (wrapF .i64 (s + 1)) from wr_rng _)⟩) [] (fun x hx => by cases hx)
theorem okS (len : Int) (hl : 0 < len) (hl2 : len ≤ 4503599627370496) (es : List Mv) (h : ∀ m ∈ es, m.wf ∧ tmOk m) : ∀ x ∈ refR len es, i64 x.1 ∧ (i64 x.2.1 ∧ i64 x.2.2) :=
  all_fold (pk := i64) (ps := fun s : Int × Int => i64 s.1 ∧ i64 s.2) es (fun m hm => ⟨by
    obtain ⟨b1, b2⟩ := from_bnd hl hl2 (h m hm).2.1 (h m hm).2.2
    unfold i64; omega, ⟨(show i64 (wrapF .i64 (0 + 1)) from wr_rng _), (show i64 (wrapF .i64 (0 + ((m.rl.length : Nat) : Int))) from wr_rng _)⟩, fun s hs => ⟨(show i64 (wrapF .i64 (s.1 + 1)) from wr_rng _), (show i64 (wrapF .i64 (s.2 + ((m.rl.length : Nat) : Int))) from wr_rng _)⟩⟩) [] (fun x hx => by cases hx)
theorem busy_mem {l : List RwP} {x : RwP} (h : busy l = some x) : x ∈ l := by
  have g : ∀ (l : List RwP) (b : Option RwP), l.foldl pickP b = some x → b = some x ∨ x ∈ l := by
    intro l
    induction l with
    | nil => intro b h; exact .inl h
    | cons a r ih =>
      intro b h
      rcases ih _ h with h | h
      · cases b with
        | none => cases h; exact .inr (List.mem_cons_self ..)
        | some y =>
          unfold pickP at h
          simp only at h
          split at h
          · cases h; exact .inr (List.mem_cons_self ..)
          · exact .inl h
      · exact .inr (List.mem_cons_of_mem _ h)
  exact (g l none h).elim (fun h => by cases h) id
theorem okG (es : List Mv) (h : ∀ m ∈ es, m.wf ∧ tmOk m) : ∀ g, silF es = some g → i64 g.1 ∧ i64 g.2.1 ∧ i64 g.2.2 := by
  have k : ∀ (es : List Mv) (st : List (Int × Int) × Option Gp), (∀ m ∈ es, m.wf ∧ tmOk m) → (∀ p t, lkk p st.1 = some t → i64 t) → (∀ g, st.2 = some g → i64 g.1 ∧ i64 g.2.1 ∧ i64 g.2.2) → ∀ g, (es.foldl silS st).2 = some g → i64 g.1 ∧ i64 g.2.1 ∧ i64 g.2.2 := by
    intro es
    induction es with
    | nil => intro st _ _ h2 g hg; exact h2 g hg
    | cons m es ih =>
      intro st h h1 h2 g hg
      have hm := h m (List.mem_cons_self ..)
      refine ih (silS st m) (fun x hx => h x (List.mem_cons_of_mem _ hx)) (fun p t hp => ?_) (fun g hg => ?_) g hg
      · unfold silS at hp
        simp only [lkk_updM] at hp
        split at hp
        · cases hp; exact tm_i64 hm.2
        · exact h1 p t hp
      · unfold silS at hg
        simp only at hg
        cases hl : lkk m.to st.1 with
        | none => rw [hl] at hg; exact h2 g hg
        | some fr =>
          rw [hl] at hg
          simp only at hg
          have hn : i64 m.to ∧ i64 fr ∧ i64 m.t := ⟨wf_i64 hm.1.2.1, h1 _ _ hl, tm_i64 hm.2⟩
          cases ho : st.2 with
          | none => rw [ho] at hg; cases hg; exact hn
          | some c =>
            rw [ho, pickG_if] at hg
            split at hg
            · cases hg; exact hn
            · cases hg; exact h2 _ ho
  exact k es ([], none) h (fun p t h => by cases h) (fun g h => by cases h)
end Go.Proofs.YthoojnjcdllgdaaGreatDoor
