import Derived.Test.YtlhopiehnaabgaaGreatDoorLE
import Derived.Test.YtlhopiehnaabgaaGreatDoorSame
set_option linter.all false
namespace Go.Proofs.YtlhopiehnaabgaaGreatDoor
open Go Rf
set_option maxRecDepth 100000
set_option maxHeartbeats 1000000
def bV (x:UInt8):V:= .i .u8 (x.toNat:Nat)
def bsV (l:List UInt8):V:= .pu 1 (l.map bV) .u
theorem bsV_nm {L:Nat→Prop}(l:List UInt8):Nm L (bsV l):= .pu _ _ _ (fun v hv=>by
 obtain ⟨x,-,rfl⟩:=List.mem_map.1 hv;exact .i _ _) (fun k hk=>by cases hk)
def acc8 (a:Int)(x:UInt8):Int:=wrapF .i64 ((BitVec.ofInt 64 (wrapF .i64 (a* 2^8)) ||| BitVec.ofInt 64 (wrapF .i64 (x.toNat:Nat))).toNat)
def numb (l:List UInt8):Int:=l.foldl acc8 0
theorem numb_snoc (l:List UInt8)(x:UInt8):numb (l++[x])=acc8 (numb l) x:=by simp[numb]
structure Upd (s s':St) (l:Nat) (o:O):Prop where
 n :s'.n=s.n
 g :s'.g=s.g
 o :s'.get l=some o
 r :∀m,m≠l→s'.get m=s.get m
theorem Upd.refl {s:St}{l:Nat}{o:O}(h:s.get l=some o):Upd s s l o:=⟨rfl,rfl,h,fun _ _=>rfl⟩
theorem Upd.put {s s':St}{l:Nat}{o:O}(h:Upd s s' l o)(o':O):Upd s (s'.put l (some o')) l o':=
 ⟨by rw[St.put_n,h.n],by rw[St.put_g,h.g],St.get_put_same _ _ _,fun m hm=>by rw[St.get_put_ne _ _ _ _ hm,h.r m hm]⟩
theorem Upd.end {s s':St}{l:Nat}{o:O}(h:Upd s s' l o)(hg:Rf.Good s'):WkS s (s.put l (some o)) s'∧((s.put l (some o)).L=s'.L):=by
 have hL:(s.put l (some o)).L=s'.L:=by rw[St.put_L];unfold St.L;rw[h.n,h.g]
 have hget:∀m x,(s.put l (some o)).get m=some x→s'.get m=some x:=fun m x hx=>by
  by_cases e:m=l
  ·subst e;rw[St.get_put_same] at hx;rw[h.o];exact hx
  ·rw[St.get_put_ne _ _ _ _ e] at hx;rw[h.r m e];exact hx
 exact ⟨⟨hget,fun m hm=>by rw[St.put_n,←h.n];exact hg.2 m (by rw[h.g];exact hm),fun m x hx=>by rw[hL];exact hg.1 m x (hget m x hx), .inl hL, .inl hL, .inl hL⟩,hL⟩
def EN (l size j:Nat)(a:Int):List V:=(.p l 0:: .bad:: .bad:: .bad:: .i .i64 a:: .i .i64 (size:Nat):: .i .i64 (j:Nat)::List.replicate 36 .bad)
def rdO (bs:List UInt8)(at':Nat)(t:Option Nat):O:= .c [bsV bs, .i .i64 (at':Nat)] 0 t
theorem take_snoc {bs:List UInt8}{at' j:Nat}{x:UInt8}(h:bs[at'+j]? =some x):(bs.drop at').take (j+1)=(bs.drop at').take j++[x]:=by
 rw [List.take_add_one,List.getElem?_drop,h];rfl
theorem number_den (s:St)(l:Nat)(bs:List UInt8)(at' size:Nat)(t:Option Nat)(hs:s.get l=some (rdO bs at' t))(hb:bs.length≤300000)(hsz:size≤8)(hr:at'+size≤bs.length):
  Den gt0 Tryz.prog 109 [.p l 0, .i .i64 (size:Nat)] s (.i .i64 (numb ((bs.drop at').take size))) (s.put l (some (rdO bs (at'+size) t))):=by
 have hm:1000000≤maxLen:=by decide
 have hlb:(bs.map bV).length=bs.length:=List.length_map ..
 refine Den.hm gnm0 hF109 ?_
 conv =>whnf
 refine sgh ?_
 refine HM.loop gnm0 fun hg=>⟨fun n e s'=>∃j:Nat,j≤size∧n=size-j∧e=EN l size j (numb ((bs.drop at').take j))∧Upd s s' l (rdO bs (at'+j) t),⟨size,fg [0,4,5,6] _,_,WkM.fg hg,0,Nat.zero_le _,rfl,by rw[List.take_zero];rfl, .refl hs⟩, ?_⟩
 rintro n e s' ⟨j,hj,rfl,rfl,hU⟩
 have hl:s'.get l=some (.c [bsV bs, .i .i64 ((at'+j:Nat):Int)] 0 t):=hU.o
 conv =>whnf
 refine sgh ?_
 refine brB_iff.2 ⟨fun h1=> ?_,fun h1=> ?_⟩<;>conv=>whnf
 ·have hlt:j<size:=by rw[ltZ_eq] at h1;simpa using h1
  refine sgh ?_
  have hlx:at'+j<bs.length:=by omega
  refine brB_iff.2 ⟨fun h2=> ?_,fun h2=> ?_⟩<;>conv=>whnf
  ·exfalso
   rw [eqZ_eq,List.length_map] at h2
   simp at h2
   omega
  have hgx:bs[at'+j]? =some bs[at'+j]:=List.getElem?_eq_getElem hlx
  have hx:(bs.map bV)[((at'+j:Nat):Int).toNat]? =some (bV bs[at'+j]):=by rw[Int.toNat_natCast,List.getElem?_map,hgx];rfl
  generalize bs[at'+j]=x at hgx hx
  refine sgh ?_
  refine ⟨rfl,Int.natCast_nonneg _,_,hx, ?_⟩
  conv =>whnf
  refine sgh ?_
  have hw:wrapF .i64 (((at'+j:Nat):Int)+1)=((at'+(j+1):Nat):Int):=wrap_succ (n:=bs.length) hlx (by omega)
  refine HO.opA (krun_store (n:=1) (l:=l) (o:=0+1) (v:= .i .i64 ((at'+(j+1):Nat):Int)) (cs':=[bsV bs, .i .i64 ((at'+(j+1):Nat):Int)]) (by rfl) (by rw[←hw];rfl) hl rfl rfl (Nat.zero_le _) (by simp) rfl) ?_
  have hU2:Upd s (s'.put l (some (.c [bsV bs, .i .i64 ((at'+(j+1):Nat):Int)] 0 t))) l (rdO bs (at'+(j+1)) t):=hU.put _
  generalize St.put _ _ _=s2 at*
  conv =>whnf
  refine sgh ?_
  rw [wrap_succ hlt (by omega)]
  intro hg'
  exact ⟨size-(j+1),fg [0,4,5,6] _,_,by omega,WkM.fg hg',j+1,hlt,rfl,by rw[take_snoc hgx,numb_snoc];rfl,hU2⟩
 ·have hge:size≤j:=by rw[ltZ_eq] at h1;simpa using h1
  have hjs:j=size:=by omega
  subst hjs
  refine sgh ?_
  refine ⟨.refl _,fun hg=> ?_⟩
  obtain ⟨h2,h3⟩:=hU.end hg
  exact ⟨h2, .inl h3⟩
theorem number_pan (s:St)(l:Nat)(bs:List UInt8)(at' size:Nat)(t:Option Nat)(hs:s.get l=some (rdO bs at' t))(hb:bs.length≤300000)(hsz:size≤8)(ha:at'≤bs.length)(hr:bs.length<at'+size):
  PanDen gt0 Tryz.prog 109 [.p l 0, .i .i64 (size:Nat)] s (.ifc 133 (.ag [])) (s.put l (some (rdO bs bs.length t))):=by
 have hm:1000000≤maxLen:=by decide
 have hlb:(bs.map bV).length=bs.length:=List.length_map ..
 refine PanDen.hm gnm0 hF109 ?_
 conv =>whnf
 refine sgh ?_
 refine HM.loop gnm0 fun hg=>⟨fun n e s'=>∃j:Nat,at'+j≤bs.length∧n=size-j∧e=EN l size j (numb ((bs.drop at').take j))∧Upd s s' l (rdO bs (at'+j) t),⟨size,fg [0,4,5,6] _,_,WkM.fg hg,0,ha,rfl,by rw[List.take_zero];rfl, .refl hs⟩, ?_⟩
 rintro n e s' ⟨j,hj,rfl,rfl,hU⟩
 have hl:s'.get l=some (.c [bsV bs, .i .i64 ((at'+j:Nat):Int)] 0 t):=hU.o
 conv =>whnf
 refine sgh ?_
 refine brB_iff.2 ⟨fun h1=> ?_,fun h1=> ?_⟩<;>conv=>whnf
 ·have hlt:j<size:=by rw[ltZ_eq] at h1;simpa using h1
  refine sgh ?_
  refine brB_iff.2 ⟨fun h2=> ?_,fun h2=> ?_⟩<;>conv=>whnf
  ·have h3:at'+j=bs.length:=by
    rw [eqZ_eq,List.length_map] at h2
    simp at h2
    omega
   refine HM.opsp ?_
   conv =>whnf
   refine HP.k ?_
   conv =>whnf
   refine HP.k ?_
   conv =>whnf
   refine HP.pan rfl ?_
   rw [h3] at hU
   refine ⟨.refl _,fun hg=> ?_⟩
   obtain ⟨h2,h3⟩:=hU.end hg
   exact ⟨h2, .inl h3⟩
  have hlx:at'+j<bs.length:=by
   rw [eqZ_eq,List.length_map] at h2
   simp at h2
   omega
  have hgx:bs[at'+j]? =some bs[at'+j]:=List.getElem?_eq_getElem hlx
  have hx:(bs.map bV)[((at'+j:Nat):Int).toNat]? =some (bV bs[at'+j]):=by rw[Int.toNat_natCast,List.getElem?_map,hgx];rfl
  generalize bs[at'+j]=x at hgx hx
  refine sgh ?_
  refine ⟨rfl,Int.natCast_nonneg _,_,hx, ?_⟩
  conv =>whnf
  refine sgh ?_
  have hw:wrapF .i64 (((at'+j:Nat):Int)+1)=((at'+(j+1):Nat):Int):=wrap_succ (n:=bs.length) hlx (by omega)
  refine HO.opA (krun_store (n:=1) (l:=l) (o:=0+1) (v:= .i .i64 ((at'+(j+1):Nat):Int)) (cs':=[bsV bs, .i .i64 ((at'+(j+1):Nat):Int)]) (by rfl) (by rw[←hw];rfl) hl rfl rfl (Nat.zero_le _) (by simp) rfl) ?_
  have hU2:Upd s (s'.put l (some (.c [bsV bs, .i .i64 ((at'+(j+1):Nat):Int)] 0 t))) l (rdO bs (at'+(j+1)) t):=hU.put _
  generalize St.put _ _ _=s2 at*
  conv =>whnf
  refine sgh ?_
  rw [wrap_succ hlt (by omega)]
  intro hg'
  exact ⟨size-(j+1),fg [0,4,5,6] _,_,by omega,WkM.fg hg',j+1,by omega,rfl,by rw[take_snoc hgx,numb_snoc];rfl,hU2⟩
 ·exfalso
  rw [ltZ_eq] at h1
  simp at h1
  omega
end Go.Proofs.YtlhopiehnaabgaaGreatDoor
set_option linter.all false
namespace Go.Proofs.YtlhopiehnaabgaaGreatDoor
open Go Rf
set_option maxRecDepth 100000
def nbN:Nat→Bool
 | 0=>false
 | 1=>true
 | 2=>true
 | 3=>true
 | 4=>false
 | 5=>false
 | 6=>false
 | 7=>false
 | 8=>false
 | 9=>false
 | 10=>false
 | 11=>false
 | 12=>false
 | 13=>true
 | 14=>true
 | 15=>true
 | 16=>false
 | 17=>false
 | _+18=>false
def nb:Int→Bool
 | .ofNat n=>nbN n
 | .negSucc _=>false
def wdN:Nat→List UInt8
 | 0=>[]
 | 1=>[112,117,115,104]
 | 2=>[108,111,97,100]
 | 3=>[115,116,111,114,101]
 | 4=>[116,105,109,101]
 | 5=>[100,97,116,97]
 | 6=>[115,101,108,102]
 | 7=>[114,97,110,100]
 | 8=>[97,100,100]
 | 9=>[115,117,98]
 | 10=>[109,117,108]
 | 11=>[108,101,115,115]
 | 12=>[115,97,109,101]
 | 13=>[106,117,109,112]
 | 14=>[122,101,114,111]
 | 15=>[115,101,110,100]
 | 16=>[116,101,108,108]
 | 17=>[101,110,100]
 | _+18=>[]
def wd:Int→List UInt8
 | .ofNat n=>wdN n
 | .negSucc _=>[]
theorem op_split {p:Int→Prop}(hn:∀n,p (.negSucc n))(hb:∀n,p (.ofNat (n+18)))
  (h0:p (.ofNat 0)) (h1:p (.ofNat 1)) (h2:p (.ofNat 2)) (h3:p (.ofNat 3)) (h4:p (.ofNat 4)) (h5:p (.ofNat 5)) (h6:p (.ofNat 6)) (h7:p (.ofNat 7)) (h8:p (.ofNat 8)) (h9:p (.ofNat 9)) (h10:p (.ofNat 10)) (h11:p (.ofNat 11)) (h12:p (.ofNat 12)) (h13:p (.ofNat 13)) (h14:p (.ofNat 14)) (h15:p (.ofNat 15)) (h16:p (.ofNat 16)) (h17:p (.ofNat 17)) (o:Int):p o:=by
 cases o with
 | negSucc n=>exact hn n
 | ofNat n=>
  match n with
  | 0=>exact h0
  | 1=>exact h1
  | 2=>exact h2
  | 3=>exact h3
  | 4=>exact h4
  | 5=>exact h5
  | 6=>exact h6
  | 7=>exact h7
  | 8=>exact h8
  | 9=>exact h9
  | 10=>exact h10
  | 11=>exact h11
  | 12=>exact h12
  | 13=>exact h13
  | 14=>exact h14
  | 15=>exact h15
  | 16=>exact h16
  | 17=>exact h17
  | n+18=>exact hb n
theorem pden_of {f:Nat}{args:List V}{v:V}(ha:∀x∈args,Nm s0.L x)(hv:Nm s0.L v)(h:(evFT tbB 1000 1000 f args s0).map (·.1)=some v):PDen gt0 Tryz.prog f args v:=by
 obtain ⟨s',hd⟩:=den_of h
 exact Den.pure gnm0 ha hv hd
theorem nmi {L:Nat→Prop}(o:Int):∀x∈[V.i .i64 o],Nm L x:=fun x hx=>by
 simp only[List.mem_singleton] at hx;subst hx;exact .i _ _
theorem nb_den (o:Int):PDen gt0 Tryz.prog 59 [.i .i64 o] (.b (nb o)):=
 pden_of (nmi o) (.b _) (op_split (p:=fun o=>(evFT tbB 1000 1000 59 [.i .i64 o] s0).map (·.1)=some (.b (nb o))) (fun n=>by kernel_rfl) (fun n=>by kernel_rfl)
  (by kernel_rfl) (by kernel_rfl) (by kernel_rfl) (by kernel_rfl) (by kernel_rfl) (by kernel_rfl) (by kernel_rfl) (by kernel_rfl) (by kernel_rfl) (by kernel_rfl) (by kernel_rfl) (by kernel_rfl) (by kernel_rfl) (by kernel_rfl) (by kernel_rfl) (by kernel_rfl) (by kernel_rfl) (by kernel_rfl) o)
theorem rnb_den (o:Int):PDen gt0 Tryz.prog 49 [.i .i64 o] (.b (nb o)):=
 pden_of (nmi o) (.b _) (op_split (p:=fun o=>(evFT tbB 1000 1000 49 [.i .i64 o] s0).map (·.1)=some (.b (nb o))) (fun n=>by kernel_rfl) (fun n=>by kernel_rfl)
  (by kernel_rfl) (by kernel_rfl) (by kernel_rfl) (by kernel_rfl) (by kernel_rfl) (by kernel_rfl) (by kernel_rfl) (by kernel_rfl) (by kernel_rfl) (by kernel_rfl) (by kernel_rfl) (by kernel_rfl) (by kernel_rfl) (by kernel_rfl) (by kernel_rfl) (by kernel_rfl) (by kernel_rfl) (by kernel_rfl) o)
theorem wd_den (o:Int):PDen gt0 Tryz.prog 63 [.i .i64 o] (.s (wd o)):=
 pden_of (nmi o) (.s _) (op_split (p:=fun o=>(evFT tbB 1000 1000 63 [.i .i64 o] s0).map (·.1)=some (.s (wd o))) (fun n=>by kernel_rfl) (fun n=>by kernel_rfl)
  (by kernel_rfl) (by kernel_rfl) (by kernel_rfl) (by kernel_rfl) (by kernel_rfl) (by kernel_rfl) (by kernel_rfl) (by kernel_rfl) (by kernel_rfl) (by kernel_rfl) (by kernel_rfl) (by kernel_rfl) (by kernel_rfl) (by kernel_rfl) (by kernel_rfl) (by kernel_rfl) (by kernel_rfl) (by kernel_rfl) o)
theorem rwd_den (o:Int):PDen gt0 Tryz.prog 48 [.i .i64 o] (.s (wd o)):=
 pden_of (nmi o) (.s _) (op_split (p:=fun o=>(evFT tbB 1000 1000 48 [.i .i64 o] s0).map (·.1)=some (.s (wd o))) (fun n=>by kernel_rfl) (fun n=>by kernel_rfl)
  (by kernel_rfl) (by kernel_rfl) (by kernel_rfl) (by kernel_rfl) (by kernel_rfl) (by kernel_rfl) (by kernel_rfl) (by kernel_rfl) (by kernel_rfl) (by kernel_rfl) (by kernel_rfl) (by kernel_rfl) (by kernel_rfl) (by kernel_rfl) (by kernel_rfl) (by kernel_rfl) (by kernel_rfl) (by kernel_rfl) o)
end Go.Proofs.YtlhopiehnaabgaaGreatDoor
