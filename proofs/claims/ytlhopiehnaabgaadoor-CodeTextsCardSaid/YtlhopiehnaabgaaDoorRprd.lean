/-
  Contracts: the reader's program, as calls. No statement stands here.
-/
import Derived.Test.YtlhopiehnaabgaaDoorRprc
set_option linter.all false
namespace Go.Proofs.YtlhopiehnaabgaaDoor
open Go Rf
set_option maxRecDepth 100000
set_option maxHeartbeats 2000000

theorem rdO_nm {L : Nat → Prop} (bs : List UInt8) (a : Nat) : ∀ c ∈ [bsV bs, V.i .i64 ((a : Nat) : Int)], Nm L c := fun c hc => by
  simp only [List.mem_cons, List.not_mem_nil, or_false] at hc
  rcases hc with rfl | rfl
  · exact bsV_nm _
  · exact .i _ _

theorem prog_den (s : St) (l : Nat) (bs : List UInt8) (t : Option Nat) (hs : s.get l = some (rdO bs 0 t)) (hb : bs.length ≤ 300000) (hx : NoX s) {v : Int} {ks : List Kd} {a : Nat} (h : progP bs = some (v, ks, a)) :
    Den gt0 Tryd.prog 60 [.p l 0] s (pgV v ks) (s.put l (some (rdO bs a t))) := by
  refine Den.tidy fun ht => Den.hm gnm0 hF60 (prog_hm s l bs t hs hb (fun hn => by rw [h] at hn; cases hn) (fun v' ks' a' e s' N pkv hp hU hN hget hV => ?_))
  rw [h] at hp
  cases hp
  refine finM_ret (vs := [.ag [.i .i64 v, pkv]]) (.inl rfl) ?_ (.ag _ _ (.cons (.refl _) (.cons hV .nil))) (fun _ => ⟨hU.end ht hx (ht.1.1 l _ hs) (rdO_nm bs a), .inr (pgV_nm v ks)⟩)
  show resV e s' [.cn 2 2] = _
  have h1 : aop e s' (.loadn 2 (.t 2)) = some (.ag [.i .i64 v, pkv], s') := krun_load_all (gt := gt0) (P := Tryd.prog) (a := .t 2) hN.get hget rfl
  simp only [resV, h1, Option.map]
theorem prog_pan (s : St) (l : Nat) (bs : List UInt8) (t : Option Nat) (hs : s.get l = some (rdO bs 0 t)) (hb : bs.length ≤ 300000) (hx : NoX s) (h : progP bs = none) :
    PanDen gt0 Tryd.prog 60 [.p l 0] s (.ifc 108 (.ag [])) (s.put l (some (rdO bs bs.length t))) := by
  refine PanDen.tidy fun ht => PanDen.hm gnm0 hF60 (prog_hm s l bs t hs hb (fun hn e s' hU => ?_) (fun v' ks' a' e s' N pkv hp hU hN hget hV => by rw [h] at hp; cases hp))
  exact ⟨.refl _, fun _ => ⟨hU.end ht hx (ht.1.1 l _ hs) (rdO_nm bs _), .inr (.ifc _ _ (.ag _ (fun x hx => by cases hx)))⟩⟩
end Go.Proofs.YtlhopiehnaabgaaDoor
