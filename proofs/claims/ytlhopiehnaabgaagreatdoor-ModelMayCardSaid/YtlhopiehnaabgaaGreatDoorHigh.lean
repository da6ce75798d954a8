import Derived.Test.YtlhopiehnaabgaaGreatDoorLE
import Derived.Test.YtlhopiehnaabgaaGreatDoorDig
import Derived.Test.YtlhopiehnaabgaaGreatDoorOfB
import Derived.Test.YtlhopiehnaabgaaGreatDoorLD
set_option linter.all false
namespace Go.Proofs.YtlhopiehnaabgaaGreatDoor
open Go Rf
set_option maxRecDepth 100000
set_option maxHeartbeats 4000000
def hbI (x:Int):V:= .i .u8 (wrapF .u8 (x.tmod 256))
def qI (x:Int):Int:=wrapF .u64 (x.tdiv 256)
def hiL (x:Int):List V:=[hbI (qI (qI (qI (qI (qI (qI (qI x))))))),hbI (qI (qI (qI (qI (qI (qI x)))))),hbI (qI (qI (qI (qI (qI x))))),hbI (qI (qI (qI (qI x)))),hbI (qI (qI (qI x))),hbI (qI (qI x)),hbI (qI x),hbI x]
noncomputable def hiC (x:Int):Cfg:=entC Tryz.prog 42 [.i .u64 x, .i .i64 8] s0
noncomputable def hiR (x:Int):Option (V×St):=runA gt0 Tryz.prog wm kn0 kn0 42 600 (hiC x).1 (hiC x).2.1 (hiC x).2.2
theorem hiR_v (x:Int):(hiR x).map (·.1)=some (.sl 1 0 0 8 (some 8)):=by kernel_rfl
theorem hiR_o (x:Int):(hiR x).bind (·.2.get 0)=some (.c (hiL x) 0 (some 5)):=by kernel_rfl
theorem hiL_nm {L:Nat→Prop}(x:Int):Nm L (.pu 1 (hiL x) .u):= .pu _ _ _ (fun v hv=>by
 simp only[hiL,List.mem_cons,List.not_mem_nil,or_false] at hv
 rcases hv with rfl|rfl|rfl|rfl|rfl|rfl|rfl|rfl<;>exact .i _ _) (fun k hk=>by cases hk)
theorem high_den (x:Int):PDen gt0 Tryz.prog 42 [.i .u64 x, .i .i64 8] (.pu 1 (hiL x) .u):=by
 have h1:=hiR_v x
 have h2:=hiR_o x
 cases h:hiR x with
 | none=>rw[h] at h1;cases h1
 | some r=>
  obtain ⟨v,s1⟩:=r
  rw [h] at h1 h2
  simp only[Option.map,Option.bind,Option.some.injEq] at h1 h2
  subst h1
  have he:enterA Tryz.prog 42 [.i .u64 x, .i .i64 8] false=some (hiC x).1:=by kernel_rfl
  have hd:Den gt0 Tryz.prog 42 [.i .u64 x, .i .i64 8] s0 (.sl 1 0 0 8 (some 8)) s1:=Evn.den he (Evn.last (n:=600) mixed kn0_ok kn0_ok h)
  refine PDen.freeze gnm0 (nm2 (.i _ _) (.i _ _)) (hiL_nm x) hd (.sl 1 0 0 8 (some 8) (hiL x) 0 (some 5) (hiL x) h2 (show 8≤8 from Nat.le_refl _) rfl (fun i hi=> ?_) (fun i j hi hj=> ?_))
  ·match i,hi with
   | 0,_=>rfl|1,_=>rfl|2,_=>rfl|3,_=>rfl|4,_=>rfl|5,_=>rfl|6,_=>rfl|7,_=>rfl
   | n+8,h=>omega
  ·have hj0:j=0:=by omega
   subst hj0
   match i,hi with
   | 0,_=>exact .refl _|1,_=>exact .refl _|2,_=>exact .refl _|3,_=>exact .refl _|4,_=>exact .refl _|5,_=>exact .refl _|6,_=>exact .refl _|7,_=>exact .refl _
   | n+8,h=>omega
def be8 (n:Nat):List UInt8:=[UInt8.ofNat (n/72057594037927936),UInt8.ofNat (n/281474976710656),UInt8.ofNat (n/1099511627776),UInt8.ofNat (n/4294967296),UInt8.ofNat (n/16777216),UInt8.ofNat (n/65536),UInt8.ofNat (n/256),UInt8.ofNat n]
theorem qI_nat {n:Nat}(h:n<18446744073709551616):qI (n:Nat)=((n/256:Nat):Int):=by
 have e:((n:Nat):Int).tdiv 256=((n/256:Nat):Int):=rfl
 rw [qI,e,wU]
 omega
theorem hbI_nat (n:Nat):hbI (n:Nat)=bV (UInt8.ofNat n):=by
 have e:((n:Nat):Int).tmod 256=((n % 256:Nat):Int):=rfl
 rw [hbI,e,bV,wrapF_eq]
 congr 1
 simp [IntKind.wrap,IntKind.bits,IntKind.signed]
theorem hiL_nat {n:Nat}(h:n<18446744073709551616):hiL (n:Nat)=(be8 n).map bV:=by
 have d:∀m k:Nat,m<18446744073709551616→m/k<18446744073709551616:=fun m k hm=>Nat.lt_of_le_of_lt (Nat.div_le_self _ _) hm
 simp only[hiL,be8,List.map]
 rw [qI_nat h,qI_nat (d _ _ h),qI_nat (d _ _ (d _ _ h)),qI_nat (d _ _ (d _ _ (d _ _ h))),qI_nat (d _ _ (d _ _ (d _ _ (d _ _ h)))),qI_nat (d _ _ (d _ _ (d _ _ (d _ _ (d _ _ h))))),qI_nat (d _ _ (d _ _ (d _ _ (d _ _ (d _ _ (d _ _ h))))))]
 simp only[hbI_nat,Nat.div_div_eq_div_mul]
theorem be8_numU {l:List UInt8}(h:l.length=8):be8 (numU l)=l:=by
 match l,h with
 | [a,b,c,d,e,f,g,i],_=>
  have ha:=a.toNat_lt
  have hb:=b.toNat_lt
  have hc:=c.toNat_lt
  have hd:=d.toNat_lt
  have he:=e.toNat_lt
  have hf:=f.toNat_lt
  have hg:=g.toNat_lt
  have hi:=i.toNat_lt
  have hn:numU [a,b,c,d,e,f,g,i]=a.toNat* 72057594037927936+b.toNat* 281474976710656+c.toNat* 1099511627776+d.toNat* 4294967296+e.toNat* 16777216+f.toNat* 65536+g.toNat* 256+i.toNat:=by
   simp only[numU,List.foldl,accU]
   omega
  have hx:∀(x:UInt8)(n:Nat),n % 256=x.toNat→UInt8.ofNat n=x:=fun x n h=>by
   apply UInt8.toNat.inj
   rw [UInt8.toNat_ofNat']
   exact h
  rw [hn]
  simp only[be8]
  rw [hx a _ (by omega),hx b _ (by omega),hx c _ (by omega),hx d _ (by omega),hx e _ (by omega),hx f _ (by omega),hx g _ (by omega),hx i _ (by omega)]
theorem numb_u (l:List UInt8):wrapF .u64 (numb l)=(numU l:Nat):=by
 have :=numU_lt l
 rw [numb_eq,wI,wU]
 omega
end Go.Proofs.YtlhopiehnaabgaaGreatDoor
