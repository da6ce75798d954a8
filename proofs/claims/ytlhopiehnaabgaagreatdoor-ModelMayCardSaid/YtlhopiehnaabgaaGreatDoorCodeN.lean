import Derived.Test.YtlhopiehnaabgaaGreatDoorIns
import Derived.Lib.ParseIntBTie
import Derived.Test.YtlhopiehnaabgaaGreatDoorLE
import Derived.Test.YtlhopiehnaabgaaGreatDoorCodeT
set_option linter.all false
namespace Go.Proofs.YtlhopiehnaabgaaGreatDoor
open Go Rf
set_option maxRecDepth 100000
set_option maxHeartbeats 4000000
def cutL (c:UInt8):List UInt8→List (List UInt8)
 | []=>[[]]
 | b::r=>if b=c then []::cutL c r else match cutL c r with
  | []=>[[b]]
  | a::t=>(b::a)::t
theorem cutL_ne (c:UInt8):∀l,cutL c l≠ []
 | []=>by simp[cutL]
 | b::r=>by
  unfold cutL
  split
  ·simp
  ·split<;>simp
theorem cutL_app {c:UInt8}:∀ {a:List UInt8}(r:List UInt8),c∉a→cutL c (a++c::r)=a::cutL c r
 | [],r,_=>by simp[cutL]
 | b::a,r,h=>by
  have hb:b≠c:=fun e=>h (e▸List.mem_cons_self ..)
  have ih:=cutL_app (a:=a) r fun e=>h (List.mem_cons_of_mem _ e)
  rw [List.cons_append,cutL,if_neg hb,ih]
theorem cutL_none {c:UInt8}:∀ {a:List UInt8},c∉a→cutL c a=[a]
 | [],_=>rfl
 | b::a,h=>by
  have hb:b≠c:=fun e=>h (e▸List.mem_cons_self ..)
  rw [cutL,if_neg hb,cutL_none (a:=a) fun e=>h (List.mem_cons_of_mem _ e)]
theorem idx_none {c:UInt8}:∀ {l:List UInt8},c∉l→Lib.indexByte l c=-1
 | [],_=>rfl
 | b::l,h=>by
  have hb:(b==c)=false:=beq_eq_false_iff_ne.2 fun e=>h (e▸List.mem_cons_self ..)
  simp [Lib.indexByte,hb,idx_none (l:=l) fun e=>h (List.mem_cons_of_mem _ e)]
theorem idx_app {c:UInt8}:∀ {a:List UInt8}(r:List UInt8),c∉a→Lib.indexByte (a++c::r) c=(a.length:Nat)
 | [],r,_=>by simp[Lib.indexByte]
 | b::a,r,h=>by
  have hb:(b==c)=false:=beq_eq_false_iff_ne.2 fun e=>h (e▸List.mem_cons_self ..)
  have ih:=idx_app (a:=a) r fun e=>h (List.mem_cons_of_mem _ e)
  have h2:((a.length:Nat):Int)≠-1:=by omega
  simp only[List.cons_append,Lib.indexByte,hb,ih,List.length_cons]
  simp [h2]
theorem cases_c (c:UInt8)(l:List UInt8):c∉l∨∃a r,l=a++c::r∧c∉a:=by
 by_cases h:c∈l
 ·obtain⟨a,r,h1,h2⟩:=List.append_of_mem h |> fun⟨s,t,e⟩=>(List.eq_append_cons_of_mem h)
  exact .inr ⟨a,r,h1,h2⟩
 ·exact .inl h
theorem pieces_eq (c:UInt8):∀(n:Nat)(l:List UInt8),l.length≤n→pieces l c 0=cutL c l:=by
 intro n
 induction n with
 | zero=>
  intro l hl
  obtain rfl:=List.length_eq_zero_iff.1 (Nat.le_zero.1 hl)
  rfl
 | succ n ih=>
  intro l hl
  rcases cases_c c l with h|⟨a,r,rfl,h⟩
  ·rw[cutL_none h]
   unfold pieces
   have :Lib.countByte l c=0:=List.count_eq_zero.2 h
   rw [this,Lib.splitB_zero]
   rfl
  ·rw[cutL_app r h,←ih r (by simp at hl;omega)]
   unfold pieces
   have e1:Lib.countByte (a++c::r) c=Lib.countByte r c+1:=by
    simp [Lib.countByte,List.count_append,List.count_eq_zero.2 h]
   have e2:Lib.indexB ⟨(a++c::r).toArray⟩ ⟨#[c]⟩=(a.length:Nat):=by
    unfold Lib.indexB
    rw [show(⟨#[c]⟩:ByteArray).data.toList=[c] from rfl,Lib.index_one]
    exact idx_app r h
   rw [e1,Lib.splitB_hit _ _ _ _ _ e2,List.map_cons]
   congr 1
   ·simp[ByteArray.data_extract]
   ·congr 3
    apply ByteArray.ext
    apply Array.toList_inj.1
    rw [ByteArray.data_extract]
    simp only[ByteArray.size,Array.toList_extract]
    rw [show(⟨#[c]⟩:ByteArray).data.size=1 from rfl]
    simp [List.extract_eq_take_drop,List.drop_append]
    rw [List.drop_of_length_le (by omega),List.nil_append,List.take_of_length_le (by omega)]
theorem pieces_cut (c:UInt8)(l:List UInt8):pieces l c 0=cutL c l:=pieces_eq c l.length l (Nat.le_refl _)
theorem cutL_len (c:UInt8):∀l:List UInt8,(cutL c l).length≤l.length+1
 | []=>by simp[cutL]
 | b::r=>by
  have ih:=cutL_len c r
  unfold cutL
  split
  ·simp;omega
  ·split
   ·simp
   ·rename_i a t e;rw[e] at ih;simp at ih ⊢;omega
theorem cutL_el (c:UInt8):∀l:List UInt8,∀p∈cutL c l,p.length≤l.length
 | [],p,h=>by simp[cutL] at h;simp[h]
 | b::r,p,h=>by
  have ih:=cutL_el c r
  unfold cutL at h
  split at h
  ·rcases List.mem_cons.1 h with rfl|h
   ·simp
   ·have:=ih p h;simp;omega
  ·split at h
   ·simp at h;simp[h]
   ·rename_i a t e
    rw [e] at ih
    rcases List.mem_cons.1 h with rfl|h
    ·have:=ih a (List.mem_cons_self ..);simp;omega
    ·have:=ih p (List.mem_cons_of_mem _ h);simp;omega
theorem parseV_i64 (l:List UInt8):i64 (parseV l):=by
 unfold parseV i64
 split
 ·rename_i v h
  have :=Lib.parseIntB_bounds h
  omega
 ·unfold Lib.intSat;split<;>simp
 ·omega
theorem atoiV_i64 (l:List UInt8):i64 (atoiV l):=by
 unfold atoiV i64
 split
 ·rename_i v h
  rw [←Lib.parseIntB_64] at h
  have :=Lib.parseIntB_bounds h
  omega
 ·unfold Lib.atoiSat;split<;>omega
 ·omega
end Go.Proofs.YtlhopiehnaabgaaGreatDoor
set_option linter.all false
namespace Go.Proofs.YtlhopiehnaabgaaGreatDoor
open Go Rf
set_option maxRecDepth 100000
set_option maxHeartbeats 400000
noncomputable def gf8:{c:F // cF gt0 Tryz.prog (wfa 8) 8=some c}:=⟨_,by conv=>lhs;reduce;simp only[oi,ou,on1]⟩
noncomputable def f8:F:=gf8.1
theorem hF8:cF gt0 Tryz.prog (wfa 8) 8=some f8:=gf8.2
noncomputable def gf12:{c:F // cF gt0 Tryz.prog (wfa 12) 12=some c}:=⟨_,by conv=>lhs;reduce;simp only[oi,ou,on1]⟩
noncomputable def f12:F:=gf12.1
noncomputable def gf24:{c:F // cF gt0 Tryz.prog (wfa 24) 24=some c}:=⟨_,by conv=>lhs;reduce;simp only[oi,ou,on1]⟩
noncomputable def f24:F:=gf24.1
noncomputable def gf25:{c:F // cF gt0 Tryz.prog (wfa 25) 25=some c}:=⟨_,by conv=>lhs;reduce;simp only[oi,ou,on1]⟩
noncomputable def f25:F:=gf25.1
noncomputable def gf27:{c:F // cF gt0 Tryz.prog (wfa 27) 27=some c}:=⟨_,by conv=>lhs;reduce;simp only[oi,ou,on1]⟩
noncomputable def f27:F:=gf27.1
noncomputable def gf36:{c:F // cF gt0 Tryz.prog (wfa 36) 36=some c}:=⟨_,by conv=>lhs;reduce;simp only[oi,ou,on1]⟩
noncomputable def f36:F:=gf36.1
noncomputable def gf51:{c:F // cF gt0 Tryz.prog (wfa 51) 51=some c}:=⟨_,by conv=>lhs;reduce;simp only[oi,ou,on1]⟩
noncomputable def f51:F:=gf51.1
noncomputable def gf9m:{c:F // cF gt0 Tryz.prog (fun r o=> !(r==11&&o==9||r==12&&o==2)) 9=some c}:=⟨_,by conv=>lhs;reduce;simp only[oi,ou,on1]⟩
noncomputable def f9m:F:=gf9m.1
end Go.Proofs.YtlhopiehnaabgaaGreatDoor
