import Derived.Test.YtlhopiehnaabgaaGreatDoorMrq
set_option linter.all false
namespace Go.Proofs.YtlhopiehnaabgaaGreatDoor
open Go Rf
set_option maxRecDepth 100000
set_option maxHeartbeats 4000000
theorem hG9:cF gt1 Tryz.prog (fun r o=> !(r==11&&o==9||r==12&&o==2)) 9=some f9m:=by kernel_rfl
theorem mg0 {s z:St}{L:List En}(K:Kn s z L){sz bytes t:Nat}{ag:Bool}{cells:List V}(hr:room 1 bytes=true):∃l z',Kn s z' (.ob true l (.c cells 0 (some t))::L)∧∀(e:List V)(x y:Arg),x.ev e= .ns→srcOf z sz (y.ev e)=some (1,cells)→aop e z (.app t false ag sz bytes x y)=some (.sl sz l 0 1 none,z'):=
 ⟨z.n,_,K.new rfl,fun e x y hx hy=>by simp[aop,hx,hy,appV,hr]⟩
theorem mg1 {s z:St}{L:List En}{l n sz bytes t:Nat}{ag:Bool}{cs cells:List V}(K:Kn s z (.ob true l (.c cs 0 (some t))::L))(hn:cs.length=n* sz)(hr:room (n+1) bytes=true)(h1:0<sz):∃l' z',Kn s z' (.ob true l' (.c (cs++cells) 0 (some t))::L)∧
  ∀ (e:List V)(x y:Arg),x.ev e= .sl sz l 0 n none→srcOf z sz (y.ev e)=some (1,cells)→aop e z (.app t false ag sz bytes x y)=some (.sl sz l' 0 (n+1) none,z'):=by
 have hok:=K.at .here
 have hn':l∉nms L:=fun h=>by
  have :=K.d
  rw [nms_cons,List.nodup_append] at this
  exact this.2.2 l (by simp[En.nm]) l h rfl
 refine ⟨z.n,_,((K.drop0 rfl).kill (hok.2.2.1 rfl) hn').new rfl,fun e x y hx hy=> ?_⟩
 have hg:=K.get (w:=true) .here
 have e3:¬((n+1)* sz≤n* sz):=by rw[Nat.succ_mul];omega
 simp [aop,hx,hy,appV,hg,hr,hn,e3]
 rw [List.take_of_length_le (by omega)]
theorem kperm {s z:St}{L L':List En}(K:Kn s z L)(h:L.Perm L'):Kn s z L':=
 K.sub (fun e he=>h.mem_iff.2 he) (fun e he _=>h.mem_iff.1 he) ((h.flatMap_right En.nm).nodup_iff.1 K.d)
theorem binV_s {a b:List UInt8}(h:a.length+b.length<9223372036854775808):binV .add (.s a) (.s b)=some (.s (a++b)):=by
 simp only[binV]
 exact if_pos h
theorem cutV_eq (t:List UInt8):∃b c,cutV t= .tu [.s (wordM t), .s b, .b c]:=by
 unfold cutV wordM
 cases Lib.indexByte t 32<;>exact⟨_,_,rfl⟩
theorem orj {p q A G:Prop}(h:p∨q)(h1:Bx G→p→A)(h2:Bx G→q→A)(g:G):A:=h.elim (h1 ⟨g⟩) (h2 ⟨g⟩)
def cP (x:List Int×Int):List V:=[.i .i64 0, .ns,vsV x.1, .i .i64 x.2]
def LM0 (X M:Nat)(fs:List Ev)(fv:V)(tk:Option Nat):List En:=[.ac 6 fv (fs.map evV) tk, .ob true M (.c [.ns,fv] 0 (some 25)), .ob true X (.c [.ns, .ns] 0 (some 25))]
def LM1 (X M lp lg:Nat)(ps:List (List Int×Int))(gs:List (List UInt8))(fs:List Ev)(fv:V)(tk:Option Nat):List En:=
 [.ac 6 fv (fs.map evV) tk, .ob true lp (.c (ps.flatMap cP) 0 (some 50)), .ob true lg (.c (gs.map V.s) 0 (some 9)), .ob true M (.c [.sl 4 lp 0 ps.length none,fv] 0 (some 25)), .ob true X (.c [.ns, .ns] 0 (some 25))]
def RepM (s z:St)(X M:Nat)(p:RM)(gv:V):Prop:=
 ∃ fv tk,(p.1=[]∧p.2.1=[]∧gv= .ns∧Kn s z (LM0 X M p.2.2 fv tk))∨∃lp lg,0<p.2.1.length∧gv= .sl 1 lg 0 p.2.1.length none∧Kn s z (LM1 X M lp lg p.1 p.2.1 p.2.2 fv tk)
def ERd (S:List UInt8)(X M:Nat)(gv:V)(ls:List (List UInt8))(i:Nat):List V:=(.s S:: .bad:: .p X 0:: .bad:: .p M 0::gv:: .bad:: .bad:: .bad:: .bad:: .bad:: .bad:: .bad:: .bad:: .pu 1 (ls.map V.s) .u:: .i .i64 (ls.length:Nat):: .i .i64 (i:Nat)::List.replicate 114 .bad)
def ERe (S:List UInt8)(X M:Nat)(gv:V)(l w:List UInt8)(n:List Int)(ls:List (List UInt8))(i:Nat):List V:=(.s S:: .bad:: .p X 0:: .bad:: .p M 0::gv:: .bad:: .s l:: .s w:: .bad:: .bad::vsV n:: .bad:: .bad:: .pu 1 (ls.map V.s) .u:: .i .i64 (ls.length:Nat):: .i .i64 (i:Nat)::List.replicate 114 .bad)
def LB1 (X M lp lg:Nat)(ps:List (List Int×Int))(gs:List (List UInt8))(fs:List Ev)(fv:V)(tk:Option Nat):List En:=
 [.ob true lg (.c (gs.map V.s) 0 (some 9)), .ob true lp (.c (ps.flatMap cP) 0 (some 50)), .ac 6 fv (fs.map evV) tk, .ob true M (.c [.sl 4 lp 0 ps.length none,fv] 0 (some 25)), .ob true X (.c [.ns, .ns] 0 (some 25))]
def ERb (S:List UInt8)(X M:Nat)(gv:V)(ls:List (List UInt8))(i:Nat):List V:=(.s S:: .bad:: .p X 0:: .bad:: .p M 0::gv:: .bad:: .s []:: .bad:: .bad:: .bad:: .bad:: .bad:: .bad:: .pu 1 (ls.map V.s) .u:: .i .i64 (ls.length:Nat):: .i .i64 (i:Nat)::List.replicate 114 .bad)
def ERp (S:List UInt8)(X M:Nat)(gv:V)(n j:Nat):List V:=(.s S:: .bad:: .p X 0:: .bad:: .p M 0::gv:: .bad:: .bad:: .bad:: .bad:: .bad:: .bad:: .bad:: .bad:: .bad:: .bad:: .bad:: .bad:: .bad:: .bad:: .bad:: .bad:: .bad:: .bad:: .bad:: .bad:: .bad:: .bad:: .bad:: .bad:: .bad:: .bad:: .bad:: .bad:: .bad:: .bad:: .bad:: .bad:: .bad:: .bad:: .bad:: .bad:: .bad:: .bad:: .bad:: .bad:: .bad:: .bad:: .bad:: .bad:: .bad:: .bad:: .bad:: .bad:: .bad:: .bad:: .bad:: .bad:: .bad:: .bad:: .bad:: .bad:: .bad:: .bad:: .bad:: .bad:: .bad:: .bad:: .bad:: .bad:: .bad:: .bad:: .bad:: .bad:: .bad:: .bad:: .bad:: .bad:: .bad:: .bad:: .bad:: .bad:: .bad:: .bad:: .bad:: .bad:: .bad:: .bad:: .bad:: .bad:: .bad:: .bad:: .bad:: .bad:: .bad:: .bad:: .bad:: .bad:: .bad:: .bad:: .bad:: .bad:: .i .i64 (n:Nat):: .i .i64 (j:Nat)::List.replicate 27 .bad)
def ERz (S:List UInt8)(X M:Nat):List V:=(.s S:: .bad:: .p X 0:: .bad:: .p M 0::List.replicate 126 .bad)
theorem flat_cP (ps:List (List Int×Int)):(ps.flatMap cP).length=ps.length* 4:=by
 induction ps with
 | nil=>rfl
 | cons x ps ih=>rw[List.flatMap_cons,List.length_append,ih,List.length_cons,Nat.succ_mul];simp[cP];omega
def prC (p:Pr):List V:=[.i .i64 p.1.1,ksV p.1.2,vsV p.2.1, .i .i64 p.2.2]
theorem flat_prC (ps:List Pr):(ps.flatMap prC).length=ps.length* 4:=by
 induction ps with
 | nil=>rfl
 | cons x ps ih=>rw[List.flatMap_cons,List.length_append,ih,List.length_cons,Nat.succ_mul];simp[prC];omega
theorem setAt_two (A B:List V)(a b c d a' b':V){o:Nat}(h:o=A.length):setAt (A++([a,b,c,d]++B)) o [a',b']=A++([a',b',c,d]++B):=by
 subst h
 simp [setAt]
def EndC (s z:St)(X M:Nat)(pv:V)(qs:List Pr)(fs:List Ev):Prop:=
 ∃ cl,cl.all En.own=true∧Kn s z (.ob true M (.c [pv,fsV fs] 0 (some 25)):: .ob true X (.c [.ns, .ns] 0 (some 25))::cl)∧∀z'' a b,Kn s z'' (a::b::cl)→Rd (z''.drop s.n) pv (psV qs)
theorem cofA_den (g:List UInt8)(hg:g.length≤700000)(s:St)(hx:NoX s):∃k:Int,Den gt1 Tryz.prog 28 [.s g] s (.tu [pgV (progA g).1 (progA g).2, .i .i64 k]) s:=by
 have h:=cof_den g hg (by have:=cutL_len 10 g;omega) s hx _ rfl
 have e:progA g=if mayP (foA (cutL 10 g) 0 (0,[])).1 (foA (cutL 10 g) 0 (0,[])).2∧pgT (foA (cutL 10 g) 0 (0,[])).1 (foA (cutL 10 g) 0 (0,[])).2=g then foA (cutL 10 g) 0 (0,[]) else(0,[]):=rfl
 by_cases c:mayP (foA (cutL 10 g) 0 (0,[])).1 (foA (cutL 10 g) 0 (0,[])).2∧pgT (foA (cutL 10 g) 0 (0,[])).1 (foA (cutL 10 g) 0 (0,[])).2=g
 ·rw[if_pos c] at h e
  rw [e];exact⟨_,h⟩
 ·rw[if_neg c] at h e
  rw [e];exact⟨_,h⟩
theorem flat_at:∀(qs:List Pr)(i j:Nat)(q:Pr),qs[i]? =some q→j<4→(qs.flatMap prC)[i* 4+j]? =(prC q)[j]?
 | [],i,j,q,h,_=>by simp at h
 | a::qs,0,j,q,h,hj=>by
  cases (show a=q by simpa using h)
  rw [List.flatMap_cons,List.getElem?_append_left (by simp[prC];omega),Nat.zero_mul,Nat.zero_add]
 | a::qs,i+1,j,q,h,hj=>by
  rw [List.flatMap_cons,List.getElem?_append_right (by simp[prC];omega),show(i+1)* 4+j-(prC a).length=i* 4+j by simp[prC];omega]
  exact flat_at qs i j q (by simpa using h) hj
theorem rd_prs {s:St}{l z:Nat}{qs:List Pr}{t:Option Nat}(hg:s.get l=some (.c (qs.flatMap prC) z t)):Rd s (.sl 4 l 0 qs.length none) (psV qs):=by
 refine .sl 4 l 0 qs.length none (qs.flatMap prC) z t (qs.map prV) hg (by rw[flat_prC];omega) (by simp) (fun i hi=> ?_) (fun i j hi hj=> ?_)
 ·rw[List.getD,List.getElem?_map,List.getElem?_eq_getElem hi];rfl
 ·simp only[Nat.zero_add,List.getD_eq_getElem?_getD,flat_at qs i j qs[i] (List.getElem?_eq_getElem hi) hj,List.getElem?_map,List.getElem?_eq_getElem hi]
  exact .refl _
def EndR (s z:St)(X M:Nat)(p:RM):Prop:=
 ∃ fv tk pv pw cl,Vw1 pv pw∧cl.all En.own=true∧Kn s z (.ac 6 fv (p.2.2.map evV) tk:: .ob true M (.c [pv,fv] 0 (some 25)):: .ob true X (.c [.ns, .ns] 0 (some 25))::cl)∧∀z'' a b,Kn s z'' (a::b::cl)→Rd (z''.drop s.n) pw (psV (psM p))
def sA:C→C
 | .seq a _=>a
 | c=>c
def sB:C→C
 | .seq _ b=>b
 | c=>c
def sI:C→C
 | .blk _ a=>a
 | .loop a=>a
 | c=>c
noncomputable def c24r:C:=sB (sB (sB f9m.body))
noncomputable def c24l:C:=sI (sI (sB (sA c24r)))
noncomputable def c24b:C:=sB (sB (sB (sI (sA (sB (sB c24l))))))
noncomputable def c24p:C:=sA (sB c24r)
noncomputable def c24e:C:=sB (sB c24r)
end Go.Proofs.YtlhopiehnaabgaaGreatDoor
