/-
  Sums over rows, plainly; the law's loops. No statement stands here.
-/
import Derived.Test.YthoojnjcdllgdaaTsm
import Derived.Test.YthoojnjcdllgdaaTog
import Derived.Test.YthoojnjcdllgdaaTrs
import Derived.Test.YthoojnjcdllgdaaTxf
set_option linter.all false
namespace Go.Proofs.Ythoojnjcdllgdaa
open Go Rf TallyP
set_option maxRecDepth 100000
set_option maxHeartbeats 4000000

section
variable {K S : Type} [DecidableEq K] {lt : K → K → Bool}
def smR (pr : S → Int) : List (K × S) → Int
  | [] => 0
  | (_, s) :: r => pr s + smR pr r
theorem wr_id (x : Int) : wrapF .i64 (wrapF .i64 x) = wrapF .i64 x := by
  have := wr_wr x 0
  rwa [Int.add_zero, Int.add_zero] at this
theorem wr_add {a b c : Int} (h : wrapF .i64 a = wrapF .i64 b) : wrapF .i64 (a + c) = wrapF .i64 (b + c) := by
  rw [← wr_wr a c, h, wr_wr]
theorem sm_ins {pr : S → Int} {f : Option S → S} {d : Int} (h0 : wrapF .i64 (pr (f none)) = wrapF .i64 d) (h1 : ∀ s, wrapF .i64 (pr (f (some s))) = wrapF .i64 (pr s + d)) (k : K) : ∀ l : List (K × S), wrapF .i64 (smR pr (insR lt f k l)) = wrapF .i64 (smR pr l + d)
  | [] => by
    show wrapF .i64 (pr (f none) + 0) = wrapF .i64 (0 + d)
    rw [Int.add_zero, Int.zero_add, h0]
  | (a, s) :: r => by
    have ih := sm_ins h0 h1 k r
    unfold insR
    split
    · show wrapF .i64 (pr s + smR pr (insR lt f k r)) = wrapF .i64 (pr s + smR pr r + d)
      rw [Int.add_comm, wr_add ih]
      congr 1; omega
    · split
      · show wrapF .i64 (pr (f (some s)) + smR pr r) = wrapF .i64 (pr s + smR pr r + d)
        rw [wr_add (h1 s)]
        congr 1; omega
      · show wrapF .i64 (pr (f none) + (pr s + smR pr r)) = wrapF .i64 (pr s + smR pr r + d)
        rw [wr_add h0]
        congr 1; omega
def sdE {E : Type} (d : E → Int) : List E → Int
  | [] => 0
  | e :: r => d e + sdE d r
theorem sm_fold {E : Type} {pr : S → Int} {key : E → K} {f : E → Option S → S} {d : E → Int} (h0 : ∀ e, wrapF .i64 (pr (f e none)) = wrapF .i64 (d e)) (h1 : ∀ e s, wrapF .i64 (pr (f e (some s))) = wrapF .i64 (pr s + d e)) : ∀ (es : List E) (l : List (K × S)), wrapF .i64 (smR pr (es.foldl (fun L e => insR lt (f e) (key e) L) l)) = wrapF .i64 (smR pr l + sdE d es)
  | [], l => by simp [sdE]
  | e :: es, l => by
    rw [List.foldl_cons, sm_fold h0 h1 es, wr_add (sm_ins (h0 e) (h1 e) (key e) l)]
    show wrapF .i64 (smR pr l + d e + sdE d es) = wrapF .i64 (smR pr l + (d e + sdE d es))
    congr 1; omega
theorem sm_loop (pr : S → Int) : ∀ (l : List (K × S)) (c : Int), l.foldl (fun a x => wrapF .i64 (a + pr x.2)) (wrapF .i64 c) = wrapF .i64 (c + smR pr l)
  | [], c => by simp [smR]
  | (k, s) :: r, c => by
    rw [List.foldl_cons, wr_wr, sm_loop pr r]
    show wrapF .i64 (c + pr s + smR pr r) = wrapF .i64 (c + (pr s + smR pr r))
    congr 1; omega
end
theorem sd_len (es : List Mv) : sdE (fun _ => 1) es = (es.length : Nat) := by
  induction es with
  | nil => rfl
  | cons m r ih => simp only [sdE, ih, List.length_cons]; omega
theorem sd_rec (es : List Mv) : sdE (fun m => ((m.rl.length : Nat) : Int)) es = (sumR es : Nat) := by
  induction es with
  | nil => rfl
  | cons m r ih => simp only [sdE, ih, sumR]; omega
def foldW {R : Type} (pr : R → Int) (l : List R) : Int := l.foldl (fun a x => wrapF .i64 (a + pr x)) 0
theorem fold_ev {K S : Type} [DecidableEq K] {lt : K → K → Bool} {pr : S → Int} {key : Mv → K} {f : Mv → Option S → S} {d : Mv → Int} (h0 : ∀ e, wrapF .i64 (pr (f e none)) = wrapF .i64 (d e)) (h1 : ∀ e s, wrapF .i64 (pr (f e (some s))) = wrapF .i64 (pr s + d e)) (es : List Mv) :
    foldW (fun x : K × S => pr x.2) (es.foldl (fun L e => insR lt (f e) (key e) L) []) = wrapF .i64 (sdE d es) := by
  have h := sm_loop pr (es.foldl (fun L e => insR lt (f e) (key e) L) []) 0
  have e0 : wrapF .i64 0 = 0 := by decide
  rw [e0, Int.zero_add, sm_fold h0 h1 es []] at h
  unfold foldW
  rw [h]
  show wrapF .i64 (0 + sdE d es) = _
  rw [Int.zero_add]
theorem evP (es : List Mv) : foldW (fun x : RwP => x.2.1) (refP es) = wrapF .i64 ((es.length : Nat) : Int) := by
  rw [← sd_len]
  exact fold_ev (pr := fun s : Sm => s.1) (fun e => by show wrapF .i64 (wrapF .i64 (0 + 1)) = _; decide) (fun e s => wr_id _) es
theorem rcP (es : List Mv) : foldW (fun x : RwP => x.2.2.1) (refP es) = wrapF .i64 ((sumR es : Nat) : Int) := by
  rw [← sd_rec]
  exact fold_ev (pr := fun s : Sm => s.2.1) (fun e => by show wrapF .i64 (wrapF .i64 (0 + ((e.rl.length : Nat) : Int))) = _; rw [wr_id, Int.zero_add]) (fun e s => wr_id _) es
theorem evK (es : List Mv) : foldW (fun x : RwK => x.2.1) (refK es) = wrapF .i64 ((es.length : Nat) : Int) := by
  rw [← sd_len]
  exact fold_ev (pr := fun s : Int × Int => s.1) (fun e => by show wrapF .i64 (wrapF .i64 (0 + 1)) = _; decide) (fun e s => wr_id _) es
theorem rcK (es : List Mv) : foldW (fun x : RwK => x.2.2) (refK es) = wrapF .i64 ((sumR es : Nat) : Int) := by
  rw [← sd_rec]
  exact fold_ev (pr := fun s : Int × Int => s.2) (fun e => by show wrapF .i64 (wrapF .i64 (0 + ((e.rl.length : Nat) : Int))) = _; rw [wr_id, Int.zero_add]) (fun e s => wr_id _) es
theorem evS (len : Int) (es : List Mv) : foldW (fun x : Rw2 => x.2.1) (refR len es) = wrapF .i64 ((es.length : Nat) : Int) := by
  rw [← sd_len]
  exact fold_ev (pr := fun s : Int × Int => s.1) (fun e => by show wrapF .i64 (wrapF .i64 (0 + 1)) = _; decide) (fun e s => wr_id _) es
theorem rcS (len : Int) (es : List Mv) : foldW (fun x : Rw2 => x.2.2) (refR len es) = wrapF .i64 ((sumR es : Nat) : Int) := by
  rw [← sd_rec]
  exact fold_ev (pr := fun s : Int × Int => s.2) (fun e => by show wrapF .i64 (wrapF .i64 (0 + ((e.rl.length : Nat) : Int))) = _; rw [wr_id, Int.zero_add]) (fun e s => wr_id _) es
theorem evF (es : List Mv) : foldW (fun x : RwF => x.2) (refF es) = wrapF .i64 ((es.length : Nat) : Int) := by
  rw [← sd_len]
  exact fold_ev (pr := fun s : Int => s) (fun e => by show wrapF .i64 (wrapF .i64 (0 + 1)) = _; decide) (fun e s => wr_id _) es
end Go.Proofs.Ythoojnjcdllgdaa
