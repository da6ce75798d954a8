import Derived.Test.YtlhopiehnaabgaaGreatDoorLE
import Derived.Test.YtlhopiehnaabgaaGreatDoorIs
import Derived.Test.YtlhopiehnaabgaaGreatDoorMmay
import Derived.Test.YtlhopiehnaabgaaGreatDoorMof
set_option linter.all false
namespace Go.Proofs.YtlhopiehnaabgaaGreatDoor
open Go Rf
set_option maxRecDepth 100000
set_option maxHeartbeats 4000000
def takeL (l:List UInt8):Option (Int×List UInt8):=if l.length<8 then none else some (numb (l.take 8),l.drop 8)
def takeV:Option (Int×List UInt8)→V
 | none=> .tu [.i .i64 0, .ns, .b false]
 | some (n,r)=> .tu [.i .i64 n,bsV r, .b true]
def rvsL:Nat→List UInt8→List Int×Option (List UInt8)
 | 0,l=>([],some l)
 | n+1,l=>match rvsL n l with
  | (xs,none)=>(xs,none)
  | (xs,some r)=>match takeL r with
   | none=>(xs,none)
   | some (y,r')=>(xs++[y],some r')
def rprL (l:List UInt8):Pr×Option (List UInt8):=match ofB l with
 | none=>(pr0,none)
 | some (v,ks,n)=>match rvsL v.toNat (l.drop n) with
  | (xs,none)=>(((v,ks),xs,0),none)
  | (xs,some r)=>match takeL r with
   | none=>(((v,ks),xs,0),none)
   | some (y,r')=>(((v,ks),xs,y),some r')
end Go.Proofs.YtlhopiehnaabgaaGreatDoor
set_option linter.all false
namespace Go.Proofs.YtlhopiehnaabgaaGreatDoor
open Go Rf
set_option maxRecDepth 100000
set_option maxHeartbeats 4000000
def rpsL:Nat→List UInt8→Option (List Pr×List UInt8)
 | 0,l=>some ([],l)
 | n+1,l=>match rpsL n l with
  | none=>none
  | some (ps,r)=>match rprL r with
   | (_,none)=>none
   | (p,some r')=>some (ps++[p],r')
def evE (b:List UInt8)(i:Nat):List UInt8:=(b.take (19+18* i)).drop (1+18* i)
def evA (b:List UInt8)(i:Nat):Ev:=(numb ((evE b i).take 8),0,(i:Nat),(((evE b i).getD 8 0).toNat:Nat),(((evE b i).getD 9 0).toNat:Nat),numb ((evE b i).drop 10))
noncomputable def rofM:List UInt8→Option (List Pr×List Ev)
 | []=>none
 | x::l=>match rpsL x.toNat l with
  | none=>none
  | some (_,[])=>none
  | some (ps,y::t)=>if t.length=18* y.toNat then(if mayM ps ((List.range y.toNat).map (evA (y::t)))=true then some (ps,(List.range y.toNat).map (evA (y::t))) else none) else none
end Go.Proofs.YtlhopiehnaabgaaGreatDoor
set_option linter.all false
namespace Go.Proofs.YtlhopiehnaabgaaGreatDoor
open Go Rf
theorem nu8_some {bs l r:List UInt8}{a:Nat}{n:Int}(hl:l=bs.drop a)(ha:a≤bs.length)(h:takeL l=some (n,r)):nuR bs 8 (a,none)=(n,(a+8,none))∧r=bs.drop (a+8)∧a+8≤bs.length:=by
 subst hl
 unfold takeL at h
 split at h
 ·cases h
 ·rename_i h1
  rw [List.length_drop] at h1
  cases h
  exact ⟨nuR_ok (by omega),by rw[List.drop_drop],by omega⟩
theorem nu8_none {bs l:List UInt8}{a:Nat}(hl:l=bs.drop a)(ha:a≤bs.length)(h:takeL l=none):nuR bs 8 (a,none)=(0,(a,some a)):=by
 subst hl
 unfold takeL at h
 split at h
 ·rename_i h1
  rw [List.length_drop] at h1
  exact nuR_short (by omega)
 ·cases h
theorem vs_err {bs:List UInt8}{a k:Nat}:∀n,(vsR bs n (a,some k)).2=(a,some k)
 | 0=>rfl
 | n+1=>by simp only[vsR];rw[vs_err n];rfl
theorem vs_err2 {bs : List UInt8} {n : Nat} {r : RS} (h : (vsR bs n r).2.2.isSome = true) : ∀ m, n ≤ m → (vsR bs m r).2.2.isSome = true := fun m hm => by
  induction m with
  | zero => have : n = 0 := by omega
            subst this; exact h
  | succ m ih =>
    by_cases e : n = m + 1
    · subst e; exact h
    · have := ih (by omega)
      simp only [vsR]
      generalize (vsR bs m r).2 = q at this ⊢
      obtain ⟨a, k⟩ := q
      cases k with
      | none => cases this
      | some k => rfl
theorem vs_eq {bs:List UInt8}{a:Nat}(ha:a≤bs.length):∀(n:Nat),(∀xs r,rvsL n (bs.drop a)=(xs,some r)→∃c,vsR bs n (a,none)=(xs,(c,none))∧r=bs.drop c∧c≤bs.length)∧(∀xs,rvsL n (bs.drop a)=(xs,none)→(vsR bs n (a,none)).2.2.isSome=true)
 | 0=>⟨fun xs r h=>by cases h;exact⟨a,rfl,rfl,ha⟩,fun xs h=>(by cases h)⟩
 | n+1=>by
  obtain ⟨h1,h2⟩:=vs_eq ha n
  cases hr:rvsL n (bs.drop a) with
  | mk xs o=>
   cases o with
   | none=>
    refine ⟨fun ys r h=>(by simp only[rvsL,hr] at h;cases h),fun ys h=>vs_err2 (h2 xs hr) _ (by omega)⟩
   | some q=>
    obtain ⟨c,e1,rfl,hc⟩:=h1 xs q hr
    cases ht:takeL (bs.drop c) with
    | none=>
     refine ⟨fun ys r h=>(by simp only[rvsL,hr,ht] at h;cases h),fun ys h=> ?_⟩
     simp only[vsR,e1,nu8_none rfl hc ht];rfl
    | some w=>
     obtain ⟨y,r'⟩:=w
     obtain ⟨e2,e3,e4⟩:=nu8_some rfl hc ht
     refine ⟨fun ys r h=> ?_,fun ys h=>(by simp only[rvsL,hr,ht] at h;cases h)⟩
     simp only[rvsL,hr,ht] at h
     cases h
     exact ⟨c+8,by simp only[vsR,e1,e2],e3,e4⟩
theorem prR_none {bs:List UInt8}{a:Nat}(h:ofB (bs.drop a)=none):prR bs (a,none)=(pr0,(a,some a)):=by simp only[prR,h]
theorem prR_some {bs:List UInt8}{a:Nat}{v:Int}{ks:List Kd}{n:Nat}(h:ofB (bs.drop a)=some (v,ks,n)):prR bs (a,none)=(((v,ks),(vsR bs v.toNat (a+n,none)).1,(nuR bs 8 (vsR bs v.toNat (a+n,none)).2).1),(nuR bs 8 (vsR bs v.toNat (a+n,none)).2).2):=by simp only[prR,h]
theorem pr_eqL {bs:List UInt8}{a:Nat}(ha:a≤bs.length):(∀p r,rprL (bs.drop a)=(p,some r)→∃c,prR bs (a,none)=(p,(c,none))∧r=bs.drop c∧c≤bs.length)∧(∀p,rprL (bs.drop a)=(p,none)→(prR bs (a,none)).2.2.isSome=true):=by
 unfold rprL
 cases hof:ofB (bs.drop a) with
 | none=>
  rw [prR_none hof]
  exact ⟨fun p r h=>(by cases h),fun p h=>rfl⟩
 | some x=>
  obtain ⟨v,ks,n⟩:=x
  have hn:=(ofB_v hof).2.2.1
  rw [List.length_drop] at hn
  rw [prR_some hof]
  simp only[List.drop_drop]
  obtain ⟨h1,h2⟩:=vs_eq (bs:=bs) (a:=a+n) (by omega) v.toNat
  cases hr:rvsL v.toNat (bs.drop (a+n)) with
  | mk xs o=>
   cases o with
   | none=>
    have :=h2 xs hr
    refine ⟨fun p r h=>(by cases h),fun p h=> ?_⟩
    generalize (vsR bs v.toNat (a+n,none)).2=q at this ⊢
    obtain ⟨b,k⟩:=q
    cases k with
    | none=>cases this
    | some k=>rfl
   | some q=>
    obtain ⟨c,e1,rfl,hc⟩:=h1 xs q hr
    simp only[e1]
    cases ht:takeL (bs.drop c) with
    | none=>exact⟨fun p r h=>(by cases h),fun p h=>by rw[nu8_none rfl hc ht];rfl⟩
    | some w=>
     obtain ⟨y,r'⟩:=w
     obtain ⟨e2,e3,e4⟩:=nu8_some rfl hc ht
     refine ⟨fun p r h=> ?_,fun p h=>(by cases h)⟩
     cases h
     exact ⟨c+8,by rw[e2],e3,e4⟩
theorem pr_err {bs:List UInt8}{r:RS}(h:r.2.isSome=true):prR bs r=(pr0,r):=by
 obtain ⟨a,k⟩:=r
 cases k with
 | none=>cases h
 | some k=>rfl
theorem ps_err2 {bs : List UInt8} {n : Nat} {r : RS} (h : (psR bs n r).2.2.isSome = true) : ∀ m, n ≤ m → (psR bs m r).2.2.isSome = true := fun m hm => by
  induction m with
  | zero => have : n = 0 := by omega
            subst this; exact h
  | succ m ih =>
    by_cases e : n = m + 1
    · subst e; exact h
    · have := ih (by omega)
      simp only [psR]
      rw [pr_err this]; exact this
theorem ps_eqL {bs:List UInt8}{a:Nat}(ha:a≤bs.length):∀(n:Nat),(∀ps r,rpsL n (bs.drop a)=some (ps,r)→∃c,psR bs n (a,none)=(ps,(c,none))∧r=bs.drop c∧c≤bs.length)∧(rpsL n (bs.drop a)=none→(psR bs n (a,none)).2.2.isSome=true)
 | 0=>⟨fun xs r h=>by cases h;exact⟨a,rfl,rfl,ha⟩,fun h=>(by cases h)⟩
 | n+1=>by
  obtain ⟨h1,h2⟩:=ps_eqL ha n
  cases hr:rpsL n (bs.drop a) with
  | none=>exact⟨fun ys r h=>(by simp only[rpsL,hr] at h;cases h),fun h=>ps_err2 (h2 hr) _ (by omega)⟩
  | some w=>
   obtain ⟨ps,q⟩:=w
   obtain ⟨c,e1,rfl,hc⟩:=h1 ps q hr
   obtain ⟨g1,g2⟩:=pr_eqL (bs:=bs) hc
   cases ht:rprL (bs.drop c) with
   | mk p o=>
    cases o with
    | none=>
     refine ⟨fun ys r h=>(by simp only[rpsL,hr,ht] at h;cases h),fun h=> ?_⟩
     simp only[psR,e1];exact g2 p ht
    | some r'=>
     obtain ⟨c2,e2,e3,e4⟩:=g1 p r' ht
     refine ⟨fun ys r h=> ?_,fun h=>(by simp only[rpsL,hr,ht] at h;cases h)⟩
     simp only[rpsL,hr,ht] at h
     cases h
     exact ⟨c2,by simp only[psR,e1,e2],e3,e4⟩
end Go.Proofs.YtlhopiehnaabgaaGreatDoor
