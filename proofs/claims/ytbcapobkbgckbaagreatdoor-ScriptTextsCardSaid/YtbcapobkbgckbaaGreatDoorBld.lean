/-
  Contracts: a builder of strings, in any state. No statement stands here.
-/
import Derived.Test.YtbcapobkbgckbaaGreatDoorCodB
import Derived.Test.YtbcapobkbgckbaaGreatDoorWc
import Derived.Test.YtbcapobkbgckbaaGreatDoorLF
set_option linter.all false
namespace Go.Proofs.YtbcapobkbgckbaaGreatDoor
open Go Rf
set_option maxRecDepth 100000
set_option maxHeartbeats 4000000

def bldO (a v : V) : O := .c [a, v] 0 (some 50)
theorem aop_u1 {e : List V} {s : St} {x : Arg} {l o z : Nat} {cs : List V} {ty : Option Nat} (hx : x.ev e = .p l o) (hs : s.get l = some (.c cs z ty)) (ho : o < cs.length) : aop e s (.u1 x) = some (.p l o, s) := by
  simp only [aop, hx, hs, if_pos ho]
theorem aop_u2 {e : List V} {s : St} {x : Arg} {t n l z : Nat} {cs : List V} (hx : x.ev e = .p l 0) (hs : s.get l = some (.c cs z (some t))) (ho : n ≤ cs.length) : aop e s (.u2 t n x) = some (.p l 0, s) := by
  simp only [aop, hx, hs]
  simp [ho]
theorem peq_pp {x y : V} {l o : Nat} (hx : x = .p l o) (hy : y = .p l o) : peq .p x y = some true := by
  subst hx; subst hy; simp [peq]
theorem cpy0_den (s : St) (B : Nat) (v : V) (hx : NoX s) (hs : s.get B = some (bldO .np v)) : Den gt0 Tryz.prog 44 [.p B 0] s (.tu []) (s.put B (some (bldO (.p B 0) v))) := by
  refine Den.tidy fun ht => Den.hm gnm0 hF44 ?_
  have hs' : s.get B = some (.c [.np, v] 0 (some 50)) := hs
  have K := Kn.init1 ht.1 hx hs'
  conv => whnf
  refine kgo ?_; (repeat (first | intro (X:Nat) | intro (z:St) | intro (av:V) | intro (tk:Option Nat) | (intro (K1:Kn _ _ _); (try clear K); rename Kn _ _ _ => K))); conv => whnf
  rw [aop_u1 (l := B) (o := 0) (cs := [.np, v]) rfl hs' (by simp)]
  conv => whnf
  refine kgo ?_; (repeat (first | intro (X:Nat) | intro (z:St) | intro (av:V) | intro (tk:Option Nat) | (intro (K1:Kn _ _ _); (try clear K); rename Kn _ _ _ => K))); conv => whnf
  rw [aop_u2 (l := B) (cs := [.np, v]) rfl hs' (by simp)]
  conv => whnf
  refine kgo ?_; (repeat (first | intro (X:Nat) | intro (z:St) | intro (av:V) | intro (tk:Option Nat) | (intro (K1:Kn _ _ _); (try clear K); rename Kn _ _ _ => K))); conv => whnf
  have hn : ∀ c ∈ [V.p B 0, v], Nm s.L c := fun c hc => by
    simp only [List.mem_cons, List.not_mem_nil, or_false] at hc
    rcases hc with rfl | rfl
    · exact .p _ _ (ht.1.1 _ _ hs)
    · exact ht.2 B _ _ _ hs' _ (by simp)
  exact K.fin1 ht hx (.tu _ (fun v hv => by simp at hv)) hn (.refl _) (ht.1.1 _ _ hs) .here (fun e he => .inr (by simp at he; subst he; rfl))
theorem cpy1_den (s : St) (B : Nat) (v : V) (hx : NoX s) (hs : s.get B = some (bldO (.p B 0) v)) : Den gt0 Tryz.prog 44 [.p B 0] s (.tu []) s := by
  refine Den.tidy fun ht => Den.hm gnm0 hF44 ?_
  have hs' : s.get B = some (.c [.p B 0, v] 0 (some 50)) := hs
  have K := Kn.init1 ht.1 hx hs'
  conv => whnf
  refine kgo ?_; (repeat (first | intro (X:Nat) | intro (z:St) | intro (av:V) | intro (tk:Option Nat) | (intro (K1:Kn _ _ _); (try clear K); rename Kn _ _ _ => K))); conv => whnf
  rw [peq_pp (l := B) (o := 0) ?_ ?_]
  · conv => whnf
    refine kgo ?_; (repeat (first | intro (X:Nat) | intro (z:St) | intro (av:V) | intro (tk:Option Nat) | (intro (K1:Kn _ _ _); (try clear K); rename Kn _ _ _ => K))); conv => whnf
    exact ⟨.refl _, fun hg => ⟨.refl hg, .inl rfl⟩⟩
  · rfl
  · rfl

def vO (bs : List UInt8) : Option Nat → V
  | none => .ns
  | some l => .sl 1 l 0 bs.length none
def rowL (bs : List UInt8) : Option Nat → List En
  | none => []
  | some l => [.ob true l (.c (bytesOf bs) 0 (some 5))]
theorem _root_.Rf.Kn.kill {s z : St} {L : List En} {l : Nat} (K : Kn s z L) (hl : s.n ≤ l) (hn : l ∉ nms L) : Kn s (z.put l none) L := by
  refine ⟨K.n, K.gg, fun m hm h => ?_, ⟨fun m o hm => ?_, K.g.2⟩, fun m x hm => ?_, fun e he => En.ok.keep (K.o e he) fun k hk => St.get_put_ne _ _ _ _ fun e1 => ?_, K.d⟩
  · rw [St.get_put_ne _ _ _ _ (by omega)]; exact K.r m hm h
  · by_cases e : m = l
    · subst e; rw [St.get_put_same] at hm; cases hm
    · rw [St.get_put_ne _ _ _ _ e] at hm; exact K.g.1 m o hm
  · by_cases e : m = l
    · subst e; rw [St.get_put_same] at hm; cases hm
    · rw [St.get_put_ne _ _ _ _ e] at hm; exact K.xm m x hm
  · subst e1; exact hn (nms_mem.2 ⟨e, he, hk⟩)
theorem _root_.Rf.Kn.rot {s z : St} {A : List En} {e : En} (K : Kn s z (e :: A)) : Kn s z (A ++ [e]) := by
  refine K.sub (fun x h => ?_) (fun x h _ => ?_) ?_
  · simp only [List.mem_append, List.mem_cons, List.not_mem_nil, or_false] at h ⊢; exact h.symm
  · simp only [List.mem_append, List.mem_cons, List.not_mem_nil, or_false] at h ⊢; exact h.symm
  · have h := K.d
    rw [nms_cons, List.nodup_append] at h
    rw [nms_app, List.nodup_append]
    have e1 : nms [e] = e.nm := by simp [nms]
    rw [e1]
    exact ⟨h.2.1, h.1, fun a ha b hb e => h.2.2 b hb a ha e.symm⟩
theorem room_of9 {n bytes : Nat} (h : n ≤ 9000000) (hb : bytes ≤ 16) : room n bytes = true := by
  have : (2 * n + 1024) * bytes ≤ (2 * 9000000 + 1024) * 16 := Nat.mul_le_mul (by omega) hb
  simp only [room, decide_eq_true_eq]; omega
theorem bapp {sb z : St} {A : List En} {bs str : List UInt8} {o : Option Nat} (K : Kn sb z (A ++ rowL bs o)) (hO : o = none ↔ bs = []) (hl : bs.length + str.length ≤ 9000000) :
    ∃ z' o', Kn sb z' (A ++ rowL (bs ++ str) o') ∧ (o' = none ↔ bs ++ str = []) ∧ ∀ (e : List V) (x y : Arg), x.ev e = vO bs o → y.ev e = .s str → aop e z (.app 5 false false 1 1 x y) = some (vO (bs ++ str) o', z') := by
  have hr : room (bs.length + str.length) 1 = true := room_of9 hl (by omega)
  by_cases h0 : str = []
  · subst h0
    refine ⟨z, o, by rw [List.append_nil]; exact K, by rw [List.append_nil]; exact hO, fun e x y hx hy => ?_⟩
    rw [List.append_nil]
    cases o with
    | none => simp [aop, hx, hy, vO, srcOf, appV]
    | some l =>
      have hg : z.get l = some (.c (bytesOf bs) 0 (some 5)) := (K.o (.ob true l (.c (bytesOf bs) 0 (some 5))) (by simp [rowL])).1
      simp [aop, hx, hy, vO, srcOf, appV, hg]
  · have hk : str.length ≠ 0 := fun h => h0 (List.length_eq_zero_iff.1 h)
    cases o with
    | none =>
      have hb := hO.1 rfl
      subst hb
      have K1 : Kn sb (z.new (.c (bytesOf str) 0 (some 5))) (A ++ rowL str (some z.n)) := by
        have := K.new (o := .c (bytesOf str) 0 (some 5)) rfl
        simp only [rowL, List.append_nil] at this
        exact this.rot
      refine ⟨_, some z.n, K1, ⟨(fun h => by cases h), fun h => by simp [h0] at h⟩, fun e x y hx hy => ?_⟩
      have hr' : room str.length 1 = true := by simpa using hr
      simp [aop, hx, hy, vO, srcOf, appV, h0, hr']
    | some l =>
      have hok := K.o (.ob true l (.c (bytesOf bs) 0 (some 5))) (by simp [rowL])
      have hg : z.get l = some (.c (bytesOf bs) 0 (some 5)) := hok.1
      have K0 : Kn sb z A := K.sub (fun x h => List.mem_append_left _ h) (fun x h ho => by
        rcases List.mem_append.1 h with h | h
        · exact h
        · simp [rowL] at h; subst h; cases ho) (by have := K.d; rw [nms_app, List.nodup_append] at this; exact this.1)
      have hn : l ∉ nms A := fun h => by
        have := K.d; rw [nms_app, List.nodup_append] at this
        exact this.2.2 l h l (by simp [rowL, nms, En.nm]) rfl
      have K1 := (K0.kill (hok.2.2.1 rfl) hn).new (o := .c (bytesOf (bs ++ str)) 0 (some 5)) rfl
      refine ⟨_, some z.n, K1.rot, ⟨(fun h => by cases h), fun h => by simp [h0] at h⟩, fun e x y hx hy => ?_⟩
      have e1 : (bytesOf bs).length = bs.length := by simp [bytesOf]
      have e2 : bytesOf (bs ++ str) = bytesOf bs ++ bytesOf str := by simp [bytesOf]
      have e3 : ¬ (bs.length + str.length ≤ bs.length) := by omega
      simp [aop, hx, hy, vO, srcOf, appV, hg, h0, hr, e1, e2, e3, List.take_of_length_le]

theorem up_app (A : List En) {L : List En} {e : En} {F : En → List En} (h : Up L e F) : Up (A ++ L) e (fun e' => A ++ F e') := by
  induction A with
  | nil => exact h
  | cons a A ih => exact .there ih
abbrev bldL (B : Nat) (a : V) (bs : List UInt8) (o : Option Nat) : List En := .ob true B (bldO a (vO bs o)) :: rowL bs o
theorem wr_den {s s2 s3 : St} {B : Nat} {v : V} {bs' : List UInt8} {o' : Option Nat} {str : List UInt8} (hcp : Den gt0 Tryz.prog 44 [.p B 0] s (.tu []) s2) (hs2 : s2.get B = some (bldO (.p B 0) v))
    (happ : ∀ (e : List V) (x y : Arg), x.ev e = v → y.ev e = .s str → KRun gt0 Tryz.prog e s2 (.a (.app 5 false false 1 1 x y)) (vO bs' o') s3) (h3 : s3.get B = some (bldO (.p B 0) v)) :
    Den gt0 Tryz.prog 17 [.p B 0, .s str] s (.tu [.i .i64 (str.length : Nat), .ni]) (s3.put B (some (bldO (.p B 0) (vO bs' o')))) := by
  have h2 : s2.get B = some (.c [.p B 0, v] 0 (some 50)) := hs2
  have h3' : s3.get B = some (.c [.p B 0, v] 0 (some 50)) := h3
  refine Den.tidy fun ht => Den.hm gnm0 hF17 ?_
  conv => whnf
  refine sgh ?_
  refine ⟨_, _, hcp, ?_⟩
  conv => whnf
  refine sgh ?_
  refine ⟨_, _, happ _ _ _ rfl rfl, ?_⟩
  cases o' <;> conv => whnf
  all_goals
    refine sgh ?_
    refine HO.opA (krun_store (l := B) (o := 1) rfl rfl h3' rfl rfl (Nat.zero_le _) (by simp) rfl) ?_
    conv => whnf
    refine sgh ?_
    exact ⟨.refl _, fun hg => ⟨.refl hg, .inl rfl⟩⟩
theorem wrs {sb s : St} {A : List En} {B : Nat} {a : V} {bs : List UInt8} {o : Option Nat} {nx : V → St → Prop} (K : Kn sb s (A ++ bldL B a bs o)) (hX : NoX s) (hO : o = none ↔ bs = []) (ha : a = .np ∨ a = .p B 0) (str : List UInt8) (hl : bs.length + str.length ≤ 9000000)
    (h : ∀ z o', Kn sb z (A ++ bldL B (.p B 0) (bs ++ str) o') → (o' = none ↔ bs ++ str = []) → nx (.tu [.i .i64 (str.length : Nat), .ni]) z) : ∃ v s', Den gt0 Tryz.prog 17 [.p B 0, .s str] s v s' ∧ nx v s' := by
  have hs : s.get B = some (bldO a (vO bs o)) := (K.o (.ob true B (bldO a (vO bs o))) (by simp)).1
  obtain ⟨s2, hcp, hs2, K2⟩ : ∃ s2, Den gt0 Tryz.prog 44 [.p B 0] s (.tu []) s2 ∧ s2.get B = some (bldO (.p B 0) (vO bs o)) ∧ Kn sb s2 (A ++ .ob true B (bldO (.p B 0) (vO bs o)) :: rowL bs o) := by
    rcases ha with rfl | rfl
    · exact ⟨_, cpy0_den s B _ hX hs, St.get_put_same _ _ _, K.put (up_app A .here) (fun _ => rfl)⟩
    · exact ⟨s, cpy1_den s B _ hX hs, hs, K⟩
  have K2' : Kn sb s2 ((A ++ [.ob true B (bldO (.p B 0) (vO bs o))]) ++ rowL bs o) := K2.cast (by simp)
  obtain ⟨s3, o', K3, hO3, happ⟩ := bapp (str := str) K2' hO hl
  have K3' : Kn sb s3 (A ++ .ob true B (bldO (.p B 0) (vO bs o)) :: rowL (bs ++ str) o') := K3.cast (by simp)
  have h3 : s3.get B = some (bldO (.p B 0) (vO bs o)) := (K3'.o (.ob true B (bldO (.p B 0) (vO bs o))) (by simp)).1
  exact ⟨_, _, wr_den hcp hs2 happ h3, h _ o' (K3'.put (up_app A .here) (fun _ => rfl)) hO3⟩
theorem aop_usd {e : List V} {s : St} {x : Arg} {sz l o n : Nat} {c : Option Nat} (hx : x.ev e = .sl sz l o n c) (hn : 0 < n) : aop e s (.usd x) = some (.p l o, s) := by
  simp only [aop, hx, if_pos (Or.inl hn)]
theorem bytesOf_len (l : List UInt8) : (bytesOf l).length = l.length := List.length_map ..
theorem toBytes_of : ∀ (l : List UInt8), toBytes (bytesOf l) = some l
  | [] => rfl
  | b :: r => by
    have ih := toBytes_of r
    simp only [bytesOf, List.map_cons, toBytes] at ih ⊢
    rw [ih]; simp
theorem aop_ustr {e : List V} {s : St} {x y : Arg} {t l : Nat} {bs : List UInt8} (hx : x.ev e = .p l 0) (hy : y.ev e = .i .i64 (bs.length : Nat)) (hg : s.get l = some (.c (bytesOf bs) 0 (some t))) (hp : 0 < bs.length) (hb : bs.length ≤ 9223372036854775807) :
    aop e s (.ustr t x y) = some (.s bs, s.put l (some (.c (bytesOf bs) bs.length (some t)))) := by
  have e1 : ((bs.length : Nat) : Int) ≠ 0 := by omega
  have e2 : ((bs.length : Nat) : Int) ≤ 9223372036854775807 := by omega
  simp only [aop, hx, hy, if_neg e1, hg, Int.toNat_natCast]
  rw [if_pos ⟨trivial, trivial, Int.natCast_nonneg _, by rw [bytesOf_len]; exact Nat.le_refl _, e2⟩, List.take_of_length_le (by rw [bytesOf_len]; exact Nat.le_refl _), toBytes_of]
  simp
theorem bstr {sb s : St} {A : List En} {B : Nat} {a : V} {bs : List UInt8} {o : Option Nat} {nx : V → St → Prop} (K : Kn sb s (A ++ bldL B a bs o)) (hO : o = none ↔ bs = []) (hl : bs.length ≤ 9000000)
    (h : ∀ z L', Kn sb z (A ++ .ob true B (bldO a (vO bs o)) :: L') → L'.all En.own = true → nx (.s bs) z) : ∃ v s', Den gt0 Tryz.prog 19 [.p B 0] s v s' ∧ nx v s' := by
  have hs : s.get B = some (.c [a, vO bs o] 0 (some 50)) := (K.o (.ob true B (bldO a (vO bs o))) (by simp)).1
  cases o with
  | none =>
    have hb := hO.1 rfl
    subst hb
    refine ⟨_, s, Den.tidy fun ht => Den.hm gnm0 hF19 ?_, h s [] K rfl⟩
    have hs' : s.get B = some (.c [a, .ns] 0 (some 50)) := hs
    conv => whnf
    refine sgh ?_
    exact ⟨.refl _, fun hg => ⟨.refl hg, .inl rfl⟩⟩
  | some l =>
    have hne : bs ≠ [] := fun h => by simpa using hO.2 h
    have hg : s.get l = some (.c (bytesOf bs) 0 (some 5)) := (K.o (.ob true l (.c (bytesOf bs) 0 (some 5))) (by simp [rowL])).1
    have K' : Kn sb (s.put l (some (.c (bytesOf bs) bs.length (some 5)))) (A ++ .ob true B (bldO a (vO bs (some l))) :: [.ob true l (.c (bytesOf bs) bs.length (some 5))]) := K.put (up_app A (.there .here)) (fun _ => rfl)
    refine ⟨_, _, Den.tidy fun ht => Den.hm gnm0 hF19 ?_, h _ _ K' rfl⟩
    have hs' : s.get B = some (.c [a, .sl 1 l 0 bs.length none] 0 (some 50)) := hs
    conv => whnf
    refine sgh ?_
    have hpos : 0 < bs.length := List.length_pos_iff.2 hne
    rw [aop_usd (sz := 1) (l := l) (o := 0) (n := bs.length) (c := none) ?_ hpos]
    · conv => whnf
      refine sgh ?_
      rw [aop_ustr (l := l) (bs := bs) ?_ ?_ hg hpos (by omega)]
      · conv => whnf
        refine sgh ?_
        exact ⟨.refl _, fun hg => ⟨.refl hg, .inl rfl⟩⟩
      · rfl
      · rfl
    · rfl

end Go.Proofs.YtbcapobkbgckbaaGreatDoor
