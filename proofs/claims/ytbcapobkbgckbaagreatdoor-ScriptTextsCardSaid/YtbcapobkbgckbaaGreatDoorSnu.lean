/-
  Numbers' digits are read back; pieces of a text. No statement stands here.
-/
import Derived.Test.YtbcapobkbgckbaaGreatDoorLF
import Derived.Lib.ItoaLen
import Derived.Lib.ParseIntBTie
import Derived.Lib.AtoiAllCases
import Derived.Lib.ItoaNum
set_option linter.all false
namespace Go.Proofs.YtbcapobkbgckbaaGreatDoor
open Go Rf
set_option maxRecDepth 100000
set_option maxHeartbeats 4000000

theorem wI (n : Int) : wrapF .i64 n = (n + 9223372036854775808) % 18446744073709551616 - 9223372036854775808 := by
  rw [wrapF_eq]
  simp only [IntKind.wrap, IntKind.bits, IntKind.signed, Bool.true_and, decide_eq_true_eq, ge_iff_le]
  split <;> omega
theorem wU (n : Int) : wrapF .u64 n = n % 18446744073709551616 := by rw [wrapF_eq]; simp [IntKind.wrap, IntKind.bits, IntKind.signed]
def i64 (n : Int) : Prop := -9223372036854775808 ≤ n ∧ n ≤ 9223372036854775807
def cutL (c : UInt8) : List UInt8 → List (List UInt8)
  | [] => [[]]
  | b :: r => if b = c then [] :: cutL c r else match cutL c r with
    | [] => [[b]]
    | a :: t => (b :: a) :: t
theorem cutL_ne (c : UInt8) : ∀ l, cutL c l ≠ []
  | [] => by simp [cutL]
  | b :: r => by
    unfold cutL
    split
    · simp
    · split <;> simp
theorem cutL_app {c : UInt8} : ∀ {a : List UInt8} (r : List UInt8), c ∉ a → cutL c (a ++ c :: r) = a :: cutL c r
  | [], r, _ => by simp [cutL]
  | b :: a, r, h => by
    have hb : b ≠ c := fun e => h (e ▸ List.mem_cons_self ..)
    have ih := cutL_app (a := a) r fun e => h (List.mem_cons_of_mem _ e)
    rw [List.cons_append, cutL, if_neg hb, ih]
theorem cutL_none {c : UInt8} : ∀ {a : List UInt8}, c ∉ a → cutL c a = [a]
  | [], _ => rfl
  | b :: a, h => by
    have hb : b ≠ c := fun e => h (e ▸ List.mem_cons_self ..)
    rw [cutL, if_neg hb, cutL_none (a := a) fun e => h (List.mem_cons_of_mem _ e)]
theorem idx_none {c : UInt8} : ∀ {l : List UInt8}, c ∉ l → Lib.indexByte l c = -1
  | [], _ => rfl
  | b :: l, h => by
    have hb : (b == c) = false := beq_eq_false_iff_ne.2 fun e => h (e ▸ List.mem_cons_self ..)
    simp [Lib.indexByte, hb, idx_none (l := l) fun e => h (List.mem_cons_of_mem _ e)]
theorem idx_app {c : UInt8} : ∀ {a : List UInt8} (r : List UInt8), c ∉ a → Lib.indexByte (a ++ c :: r) c = (a.length : Nat)
  | [], r, _ => by simp [Lib.indexByte]
  | b :: a, r, h => by
    have hb : (b == c) = false := beq_eq_false_iff_ne.2 fun e => h (e ▸ List.mem_cons_self ..)
    have ih := idx_app (a := a) r fun e => h (List.mem_cons_of_mem _ e)
    have h2 : ((a.length : Nat) : Int) ≠ -1 := by omega
    simp only [List.cons_append, Lib.indexByte, hb, ih, List.length_cons]
    simp [h2]
theorem cases_c (c : UInt8) (l : List UInt8) : c ∉ l ∨ ∃ a r, l = a ++ c :: r ∧ c ∉ a := by
  by_cases h : c ∈ l
  · obtain ⟨a, r, h1, h2⟩ := List.append_of_mem h |> fun ⟨s, t, e⟩ => (List.eq_append_cons_of_mem h)
    exact .inr ⟨a, r, h1, h2⟩
  · exact .inl h
theorem pieces_eq (c : UInt8) : ∀ (n : Nat) (l : List UInt8), l.length ≤ n → pieces l c 0 = cutL c l := by
  intro n
  induction n with
  | zero =>
    intro l hl
    obtain rfl := List.length_eq_zero_iff.1 (Nat.le_zero.1 hl)
    rfl
  | succ n ih =>
    intro l hl
    rcases cases_c c l with h | ⟨a, r, rfl, h⟩
    · rw [cutL_none h]
      unfold pieces
      have : Lib.countByte l c = 0 := List.count_eq_zero.2 h
      rw [this, Lib.splitB_zero]
      rfl
    · rw [cutL_app r h, ← ih r (by simp at hl; omega)]
      unfold pieces
      have e1 : Lib.countByte (a ++ c :: r) c = Lib.countByte r c + 1 := by
        simp [Lib.countByte, List.count_append, List.count_eq_zero.2 h]
      have e2 : Lib.indexB ⟨(a ++ c :: r).toArray⟩ ⟨#[c]⟩ = (a.length : Nat) := by
        unfold Lib.indexB
        rw [show (⟨#[c]⟩ : ByteArray).data.toList = [c] from rfl, Lib.index_one]
        exact idx_app r h
      rw [e1, Lib.splitB_hit _ _ _ _ _ e2, List.map_cons]
      congr 1
      · simp [ByteArray.data_extract]
      · congr 3
        apply ByteArray.ext
        apply Array.toList_inj.1
        rw [ByteArray.data_extract]
        simp only [ByteArray.size, Array.toList_extract]
        rw [show (⟨#[c]⟩ : ByteArray).data.size = 1 from rfl]
        simp [List.extract_eq_take_drop, List.drop_append]
        rw [List.drop_of_length_le (by omega), List.nil_append, List.take_of_length_le (by omega)]
theorem pieces_cut (c : UInt8) (l : List UInt8) : pieces l c 0 = cutL c l := pieces_eq c l.length l (Nat.le_refl _)
theorem cutL_len (c : UInt8) : ∀ l : List UInt8, (cutL c l).length ≤ l.length + 1
  | [] => by simp [cutL]
  | b :: r => by
    have ih := cutL_len c r
    unfold cutL
    split
    · simp; omega
    · split
      · simp
      · rename_i a t e; rw [e] at ih; simp at ih ⊢; omega
theorem cutL_el (c : UInt8) : ∀ l : List UInt8, ∀ p ∈ cutL c l, p.length ≤ l.length
  | [], p, h => by simp [cutL] at h; simp [h]
  | b :: r, p, h => by
    have ih := cutL_el c r
    unfold cutL at h
    split at h
    · rcases List.mem_cons.1 h with rfl | h
      · simp
      · have := ih p h; simp; omega
    · split at h
      · simp at h; simp [h]
      · rename_i a t e
        rw [e] at ih
        rcases List.mem_cons.1 h with rfl | h
        · have := ih a (List.mem_cons_self ..); simp; omega
        · have := ih p (List.mem_cons_of_mem _ h); simp; omega
theorem parseV_i64 (l : List UInt8) : i64 (parseV l) := by
  unfold parseV i64
  split
  · rename_i v h
    have := Lib.parseIntB_bounds h
    omega
  · unfold Lib.intSat; split <;> simp
  · omega
theorem atoiV_i64 (l : List UInt8) : i64 (atoiV l) := by
  unfold atoiV i64
  split
  · rename_i v h
    rw [← Lib.parseIntB_64] at h
    have := Lib.parseIntB_bounds h
    omega
  · unfold Lib.atoiSat; split <;> omega
  · omega
theorem cutL_hit {c : UInt8} : ∀ (l : List UInt8), cutL c (l ++ [c]) = cutL c l ++ [[]]
  | [] => by simp [cutL]
  | b :: l => by
    have ih := cutL_hit (c := c) l
    rw [List.cons_append, cutL, ih]
    by_cases h : b = c
    · rw [if_pos h, cutL, if_pos h]; rfl
    · rw [if_neg h, cutL, if_neg h]
      cases he : cutL c l with
      | nil => exact (cutL_ne c l he).elim
      | cons a t => rfl
theorem cutL_miss {c b : UInt8} (hb : b ≠ c) : ∀ (l : List UInt8) {o : List (List UInt8)} {t : List UInt8}, cutL c l = o ++ [t] → cutL c (l ++ [b]) = o ++ [t ++ [b]]
  | [], o, t, h => by
    have : o = [] ∧ t = [] := by
      cases o with
      | nil => simp [cutL] at h; exact ⟨rfl, h⟩
      | cons a o => simp [cutL] at h
    obtain ⟨rfl, rfl⟩ := this
    simp [cutL, hb]
  | x :: l, o, t, h => by
    rw [cutL] at h
    rw [List.cons_append, cutL]
    by_cases hx : x = c
    · rw [if_pos hx] at h ⊢
      cases o with
      | nil => exact (cutL_ne c l (by simpa using (List.cons.inj h).2)).elim
      | cons a o =>
        obtain ⟨h1, h2⟩ := List.cons.inj h
        rw [cutL_miss hb l h2, ← h1]; rfl
    · rw [if_neg hx] at h ⊢
      cases he : cutL c l with
      | nil => exact (cutL_ne c l he).elim
      | cons a r =>
        rw [he] at h
        simp only at h
        cases o with
        | nil =>
          simp at h
          obtain ⟨h1, h2⟩ := h
          have := cutL_miss hb l (o := []) (t := a) (by rw [he, h2]; rfl)
          rw [this, ← h1]; rfl
        | cons a' o =>
          obtain ⟨h1, h2⟩ := List.cons.inj h
          have := cutL_miss hb l (o := a :: o) (t := t) (by rw [he, h2]; rfl)
          rw [this, ← h1]; rfl
def stD (n : Int) (b : UInt8) : Int := if b = 45 then n else wrapF .u64 (wrapF .u64 (10 * n) + wrapF .u64 (wrapF .u8 ((b.toNat : Nat) - 48)))
def valR (l : List UInt8) : Int := wrapF .i64 (if l.head? = some 45 then wrapF .u64 (0 - l.foldl stD 0) else l.foldl stD 0)
theorem valR_i64 (l : List UInt8) : i64 (valR l) := by
  unfold valR i64
  generalize (if l.head? = some 45 then wrapF .u64 (0 - l.foldl stD 0) else l.foldl stD 0) = n
  rw [wI]; omega
theorem dig_n {d : Nat} (h : d < 10) : (UInt8.ofNat (48 + d)).toNat = 48 + d := by rw [UInt8.toNat_ofNat']; omega
theorem pu10_app : ∀ (l : List UInt8) (acc u d : Nat), d < 10 → u * 10 + d < 18446744073709551616 → Lib.parseUint10 acc l = .ok u → Lib.parseUint10 acc (l ++ [UInt8.ofNat (48 + d)]) = .ok (u * 10 + d)
  | [], acc, u, d, hd, hu, h => by
    simp only [Lib.parseUint10] at h
    cases h
    simp only [List.nil_append, Lib.parseUint10, dig_n hd]
    rw [if_pos (by omega), if_neg (by omega), if_neg (by omega)]
    congr 1; omega
  | c :: r, acc, u, d, hd, hu, h => by
    simp only [Lib.parseUint10, List.cons_append] at h ⊢
    split at h
    · rename_i h1
      rw [if_pos h1]
      split at h
      · cases h
      · rename_i h2
        rw [if_neg h2]
        split at h
        · cases h
        · rename_i h3
          rw [if_neg h3]; exact pu10_app r _ u d hd hu h
    · cases h
theorem pu10_dec (u : Nat) (h : u < 18446744073709551616) : Lib.parseUint10 0 (Lib.decDigits u) = .ok u := by
  induction u using Nat.strongRecOn with
  | _ u ih =>
    rw [Lib.decDigits]
    by_cases hu : u < 10
    · rw [dif_pos hu]
      have := pu10_app [] 0 0 u hu (by omega) rfl
      simpa using this
    · rw [dif_neg hu, pu10_app (Lib.decDigits (u / 10)) 0 (u / 10) (u % 10) (by omega) (by omega) (ih (u / 10) (by omega) (by omega))]
      congr 1; omega
theorem dec_ch (u : Nat) : ∀ b ∈ Lib.decDigits u, 48 ≤ b.toNat ∧ b.toNat ≤ 57 := by
  induction u using Nat.strongRecOn with
  | _ u ih =>
    intro b hb
    rw [Lib.decDigits] at hb
    by_cases hu : u < 10
    · rw [dif_pos hu, List.mem_singleton] at hb
      subst hb
      rw [dig_n hu]; omega
    · rw [dif_neg hu] at hb
      rcases List.mem_append.1 hb with hb | hb
      · exact ih (u / 10) (by omega) b hb
      · rw [List.mem_singleton] at hb
        subst hb
        rw [dig_n (by omega)]; omega
theorem dec_ne (u : Nat) : Lib.decDigits u ≠ [] := by
  rw [Lib.decDigits]; split <;> simp
theorem dec_cons (u : Nat) : ∃ c r, Lib.decDigits u = c :: r ∧ c.toNat ≠ 43 ∧ c.toNat ≠ 45 := by
  cases h : Lib.decDigits u with
  | nil => exact (dec_ne u h).elim
  | cons c r =>
    have := dec_ch u c (by rw [h]; exact List.mem_cons_self ..)
    exact ⟨c, r, rfl, by omega, by omega⟩
theorem itoa_no {n : Int} {c : UInt8} (hc : c.toNat < 45) : c ∉ Lib.itoa n := fun h => by
  unfold Lib.itoa at h
  split at h
  · rcases List.mem_cons.1 h with rfl | h
    · exact absurd hc (by decide)
    · have := dec_ch _ _ h; omega
  · have := dec_ch _ _ h; omega
theorem mag_dec {u : Nat} (h : u < 18446744073709551616) : Lib.parseMag (Lib.decDigits u) = .ok u := by
  unfold Lib.parseMag
  rw [if_neg (dec_ne u), pu10_dec u h]
theorem atoi_itoa {n : Int} (h : i64 n) : Lib.atoiAll (Lib.itoa n) = .ok n := by
  obtain ⟨h0, h1⟩ := h
  unfold Lib.itoa
  by_cases hn : n < 0
  · rw [if_pos hn, Lib.atoiAll_minus, mag_dec (by omega)]
    simp only [Lib.signed]
    rw [if_neg (by omega)]
    congr 1; omega
  · rw [if_neg hn]
    have hm := mag_dec (u := n.toNat) (by omega)
    obtain ⟨c, r, e, h3, h4⟩ := dec_cons n.toNat
    rw [e] at hm ⊢
    rw [Lib.atoiAll_plain c r h3 h4, hm]
    simp only [Lib.signless]
    rw [if_neg (by omega)]
    congr 1; omega
theorem atoiV_itoa {n : Int} (h : i64 n) : atoiV (Lib.itoa n) = n := by
  unfold atoiV; rw [atoi_itoa h]
theorem parseV_itoa {n : Int} (h : i64 n) : parseV (Lib.itoa n) = n := by
  unfold parseV; rw [Lib.parseIntB_64, atoi_itoa h]
theorem wIdU {n : Int} (h0 : 0 ≤ n) (h1 : n < 18446744073709551616) : wrapF .u64 n = n := by rw [wU]; omega
theorem wId8 {n : Int} (h0 : 0 ≤ n) (h1 : n < 256) : wrapF .u8 n = n := by rw [wrapF_eq]; simp [IntKind.wrap, IntKind.bits, IntKind.signed]; omega
theorem stD_dig {u d : Nat} (hd : d < 10) (h : u * 10 + d < 18446744073709551616) : stD (u : Nat) (UInt8.ofNat (48 + d)) = ((u * 10 + d : Nat) : Int) := by
  unfold stD
  rw [if_neg (fun e => by
    have := congrArg UInt8.toNat e
    rw [dig_n hd] at this
    have h45 : (45 : UInt8).toNat = 45 := rfl
    omega), dig_n hd]
  rw [wId8 (n := ((48 + d : Nat) : Int) - 48) (by omega) (by omega), wIdU (n := ((48 + d : Nat) : Int) - 48) (by omega) (by omega), wIdU (n := 10 * ((u : Nat) : Int)) (by omega) (by omega), wIdU (by omega) (by omega)]
  omega
theorem stD_dec (u : Nat) (h : u < 18446744073709551616) : (Lib.decDigits u).foldl stD 0 = (u : Nat) := by
  induction u using Nat.strongRecOn with
  | _ u ih =>
    rw [Lib.decDigits]
    by_cases hu : u < 10
    · rw [dif_pos hu]
      have := stD_dig (u := 0) (d := u) hu (by omega)
      simpa using this
    · rw [dif_neg hu, List.foldl_append, ih (u / 10) (by omega) (by omega)]
      have := stD_dig (u := u / 10) (d := u % 10) (by omega) (by omega)
      rw [show u / 10 * 10 + u % 10 = u by omega] at this
      simpa using this
theorem valR_itoa {n : Int} (h : i64 n) : valR (Lib.itoa n) = n := by
  obtain ⟨h0, h1⟩ := h
  unfold valR Lib.itoa
  by_cases hn : n < 0
  · rw [if_pos hn]
    rw [if_pos (show (45 :: Lib.decDigits n.natAbs : List UInt8).head? = some 45 from rfl), List.foldl_cons, show stD 0 45 = 0 from rfl, stD_dec _ (by omega)]
    have e : wrapF .u64 (0 - ((n.natAbs : Nat) : Int)) = 18446744073709551616 + n := by rw [wU]; omega
    rw [e, wI]; omega
  · rw [if_neg hn]
    obtain ⟨c, r, e, h3, h4⟩ := dec_cons n.toNat
    have hd := stD_dec n.toNat (by omega)
    rw [e] at hd ⊢
    rw [if_neg (fun e => by
      simp only [List.head?_cons, Option.some.injEq] at e
      subst e
      exact h4 rfl), hd, wI]
    omega
end Go.Proofs.YtbcapobkbgckbaaGreatDoor
