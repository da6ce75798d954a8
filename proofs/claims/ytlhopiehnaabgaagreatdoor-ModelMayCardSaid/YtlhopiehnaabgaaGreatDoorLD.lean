import Derived.Test.YtlhopiehnaabgaaGreatDoorLC
import Derived.AtR
import Derived.Defers
import Derived.RangeFuncRecord
import Derived.RangeFuncNested
set_option linter.all false
namespace Rf
open Go
def fgI (ks:List Nat):Nat→List V→List V
 | _,[]=>[]
 | i,v::r=>(match ks.contains i with|true=>v|false=> .bad)::fgI ks (i+1) r
def fg (ks:List Nat)(e:List V):List V:=fgI ks 0 e
theorem fgI_forg (ks:List Nat):∀(e:List V)(i:Nat),(fgI ks i e).length=e.length∧∀t,t<e.length→(fgI ks i e).getD t unV=e.getD t unV∨(fgI ks i e).getD t unV= .bad
 | [],i=>by simp[fgI]
 | v::r,i=>by
  obtain ⟨h1,h2⟩:=fgI_forg ks r (i+1)
  refine ⟨by simp[fgI,h1],fun t ht=> ?_⟩
  cases t with
  | zero=>
   simp only[fgI,List.getD_cons_zero]
   split
   ·exact .inl rfl
   ·exact .inr rfl
  | succ t=>simpa[fgI] using h2 t (by simpa using ht)
theorem fg_forg (ks:List Nat)(e:List V):Forg (fg ks e) e:=fgI_forg ks e 0
def cutT (h:Tr O)(N:Nat):Nat→Tr O
 | 0=>h
 | k+1=>Tr.put none (N+k+1) (cutT h N k) (N+k)
def St.cut (s:St)(N:Nat):St:={h:=cutT s.h N (s.n-N),n:=N,g:=[]}
theorem Wk.fg {ks:List Nat}{e:List V}{s:St}(wf:∀l o,s.get l=some o→s.L l)(g:∀l∈s.g,l<s.n):Wk (Rf.fg ks e) s e s:=
 ⟨fg_forg ks e,fun _ _ h=>h,g,wf, .inl rfl, .inl rfl, .inl rfl⟩
def gEq:List LK→List V→List V→Option Bool
 | [],[],[]=>some true
 | k::ks,a::x,b::y=>match veq k a b with
  | some p=>(match gEq ks x y with
   | some q=>some (p&&q)
   | none=>none)
  | none=>none
 | _,_,_=>none
theorem gEq_veqs:∀(ks:List LK)(a b:List V)(r:Bool),gEq ks a b=some r→veqs ks a b=some r∧a.length=ks.length∧b.length=ks.length
 | [],[],[],r,h=>by simp[gEq] at h;subst h;simp[veqs]
 | k::ks,a::x,b::y,r,h=>by
  simp only[gEq] at h
  split at h
  ·rename_i p hp
   split at h
   ·rename_i q hq
    cases h
    obtain ⟨h1,h2,h3⟩:=gEq_veqs ks x y q hq
    refine ⟨?_,by simp[h2],by simp[h3]⟩
    cases p
    ·simp[veqs,hp]
    ·simp[veqs,hp,h1]
   ·cases h
  ·cases h
 | [],_::_,_,_,h=>by simp[gEq] at h
 | [],[],_::_,_,h=>by simp[gEq] at h
 | _::_,[],_,_,h=>by simp[gEq] at h
 | _::_,_::_,[],_,h=>by simp[gEq] at h
def fN (n:Nat)(k:Nat→Prop):Prop:=match n with
 | 0=>k 0
 | n+1=>fN n fun n=>k (n+1)
theorem fN_eq:∀(n:Nat)(k:Nat→Prop),fN n k=k n
 | 0,k=>rfl
 | n+1,k=>by simp only[fN,fN_eq n]
def fV1 (v:V)(k:V→Prop):Prop:=match v with
 | .bad=>k .bad
 | .b b=>k (.b b)
 | .i j n=>k (.i j n)
 | .s l=>k (.s l)
 | .np=>k .np
 | .p l o=>fN l fun l=>k (.p l o)
 | .q v o=>k (.q v o)
 | .ns=>k .ns
 | .sl sz l o n c=>k (.sl sz l o n c)
 | .pu sz xs c=>k (.pu sz xs c)
 | .nm=>k .nm
 | .m l=>k (.m l)
 | .fn f cap=>k (.fn f cap)
 | .nf=>k .nf
 | .ifc t v=>k (.ifc t v)
 | .ni=>k .ni
 | .ag cs=>k (.ag cs)
 | .tu vs=>k (.tu vs)
 | .yl l=>k (.yl l)
 | .se sz l=>k (.se sz l)
 | .tp b t=>k (.tp b t)
theorem fV1_eq (v:V)(k:V→Prop):fV1 v k=k v:=by cases v<;>simp only[fV1,fN_eq]
def fL (l:List V)(k:List V→Prop):Prop:=match l with
 | []=>k []
 | v::r=>fL r fun r=>k (v::r)
theorem fL_eq:∀(l:List V)(k:List V→Prop),fL l k=k l
 | [],k=>rfl
 | v::r,k=>by simp only[fL,fL_eq r]
def fV (v:V)(k:V→Prop):Prop:=match v with
 | .ag cs=>fL cs fun cs=>k (.ag cs)
 | .tu cs=>fL cs fun cs=>k (.tu cs)
 | v=>fV1 v k
theorem fV_eq (v:V)(k:V→Prop):fV v k=k v:=by
 cases v<;>simp only[fV,fV1_eq,fL_eq]
def fO (o:Option O)(k:Option O→Prop):Prop:=match o with
 | none=>k none
 | some (.c cs z t)=>fL cs fun cs=>k (some (.c cs z t))
 | some (.t e)=>k (some (.t e))
 | some (.x o)=>k (some (.x o))
theorem fO_eq (o:Option O)(k:Option O→Prop):fO o k=k o:=by
 cases o with
 | none=>rfl
 | some o=>cases o<;>simp only[fO,fL_eq]
def fT (t:Tr O)(k:Tr O→Prop):Prop:=match t with
 | .e=>k .e
 | .n l x r=>fT l fun l=>fO x fun x=>fT r fun r=>k (.n l x r)
theorem fT_eq:∀(t:Tr O)(k:Tr O→Prop),fT t k=k t
 | .e,k=>rfl
 | .n l x r,k=>by simp only[fT,fT_eq l,fO_eq,fT_eq r]
def fGl (g:List Nat)(k:List Nat→Prop):Prop:=match g with
 | []=>k []
 | a::r=>k (a::r)
theorem fGl_eq (g:List Nat)(k:List Nat→Prop):fGl g k=k g:=by cases g<;>rfl
def fS (s:St)(k:St→Prop):Prop:=match s with
 | ⟨h,n,g⟩=>fN n fun n=>fGl g fun g=>fT h fun h=>k ⟨h,n,g⟩
theorem fS_eq (s:St)(k:St→Prop):fS s k=k s:=by cases s;simp only[fS,fT_eq,fN_eq,fGl_eq]
def fSet (e:List V)(d:Nat)(v:V)(k:List V→Prop):Prop:=match e with
 | []=>k []
 | x::r=>match d with
  | 0=>k (v::r)
  | d+1=>fSet r d v fun r=>k (x::r)
theorem fSet_eq:∀(e:List V)(d:Nat)(v:V)(k:List V→Prop),fSet e d v k=k (e.set d v)
 | [],d,v,k=>by simp[fSet]
 | x::r,0,v,k=>by simp[fSet]
 | x::r,d+1,v,k=>by simp only[fSet,fSet_eq r d];rfl
def fSetD (e:List V)(d:Option Nat)(v:V)(k:List V→Prop):Prop:=match d with
 | some d=>fSet e d v k
 | none=>k e
theorem fSetD_eq (e:List V)(d:Option Nat)(v:V)(k:List V→Prop):fSetD e d v k=k (setD e d v):=by
 cases d<;>simp only[fSetD,fSet_eq,setD]
section
variable {gt:Nat→Option V} {P:Program} {wf:Nat→Nat→Bool} {e:List V} {s:St} {Q:X→List V→St→Prop}
def fTake (cs:List V)(n:Nat)(k:List V→Prop):Prop:=match n with
 | 0=>k []
 | n+1=>(match cs with
  | c::r=>fTake r n fun l=>k (c::l)
  | []=>False)
theorem fTake_ok:∀(n:Nat)(cs:List V)(k:List V→Prop),fTake cs n k→n≤cs.length∧k (cs.take n)
 | 0,cs,k,h=>⟨Nat.zero_le _,by simpa[fTake] using h⟩
 | n+1,[],k,h=>by simp[fTake] at h
 | n+1,c::r,k,h=>by
  obtain ⟨h1,h2⟩:=fTake_ok n r _ h
  exact ⟨by simpa using h1,h2⟩
def fDrop (cs:List V)(o n:Nat)(k:List V→Prop):Prop:=match o with
 | 0=>fTake cs n k
 | o+1=>(match cs with
  | _::r=>fDrop r o n k
  | []=>False)
theorem fDrop_ok (n:Nat):∀(o:Nat)(cs:List V)(k:List V→Prop),fDrop cs o n k→o+n≤cs.length∧k ((cs.drop o).take n)
 | 0,cs,k,h=>by
  unfold fDrop at h
  obtain ⟨h1,h2⟩:=fTake_ok n cs k h
  exact ⟨by omega,h2⟩
 | o+1,[],k,h=>by simp[fDrop] at h
 | o+1,c::r,k,h=>by
  obtain ⟨h1,h2⟩:=fDrop_ok n o r k h
  exact ⟨by simp;omega,h2⟩
def lenIs (cs:List V)(n:Nat):Bool:=match n with
 | 0=>(match cs with| []=>true|_::_=>false)
 | n+1=>(match cs with| []=>false|_::r=>lenIs r n)
theorem lenIs_ok:∀(n:Nat)(cs:List V),lenIs cs n=true→cs.length=n
 | 0,[],_=>rfl
 | n+1,_::r,h=>by simp[lenIs_ok n r h]
 | 0,_::_,h=>by simp[lenIs] at h
 | n+1,[],h=>by simp[lenIs] at h
def fOver (cs vs:List V)(k:List V→Prop):Prop:=match vs with
 | []=>k cs
 | v::vs=>(match cs with
  | _::r=>fOver r vs fun l=>k (v::l)
  | []=>False)
theorem fOver_ok:∀(vs cs:List V)(k:List V→Prop),fOver cs vs k→vs.length≤cs.length∧k (vs++cs.drop vs.length)
 | [],cs,k,h=>⟨Nat.zero_le _,by simpa[fOver] using h⟩
 | v::vs,[],k,h=>by simp[fOver] at h
 | v::vs,c::r,k,h=>by
  obtain ⟨h1,h2⟩:=fOver_ok vs r _ h
  exact ⟨by simpa using h1,h2⟩
def fPut (cs:List V)(o:Nat)(vs:List V)(k:List V→Prop):Prop:=match o with
 | 0=>fOver cs vs k
 | o+1=>(match cs with
  | c::r=>fPut r o vs fun l=>k (c::l)
  | []=>False)
theorem fPut_ok (vs:List V):∀(o:Nat)(cs:List V)(k:List V→Prop),fPut cs o vs k→o+vs.length≤cs.length∧k (cs.take o++(vs++cs.drop (o+vs.length)))
 | 0,cs,k,h=>by
  unfold fPut at h
  obtain ⟨h1,h2⟩:=fOver_ok vs cs k h
  exact ⟨by omega,by simpa using h2⟩
 | o+1,[],k,h=>by simp[fPut] at h
 | o+1,c::r,k,h=>by
  obtain ⟨h1,h2⟩:=fPut_ok vs o r _ h
  refine ⟨by simp;omega, ?_⟩
  rw [show o+1+vs.length=(o+vs.length)+1 by omega]
  exact h2
theorem setAt_take:∀(vs:List V)(cs:List V)(o:Nat),o+vs.length≤cs.length→setAt cs o vs=cs.take o++(vs++cs.drop (o+vs.length))
 | [],cs,o,h=>by simp[setAt]
 | v::vs,cs,o,h=>by
  have h:o+(vs.length+1)≤cs.length:=h
  rw [setAt,setAt_take vs (cs.set o v) (o+1) (by simp;omega)]
  rw [List.drop_set_of_lt (by omega),List.take_set,List.take_add_one,List.set_append_right _ _ (by simp;omega)]
  have h2:cs[o]? =some cs[o]:=by simp
  have h3:(cs.take o).length=o:=by simp;omega
  rw [h2,h3]
  simp [Nat.add_comm,Nat.add_left_comm]
def wqStore (e:List V)(s:St)(n:Nat)(a v:Arg)(next:V→St→Prop):Prop:=
 match a.ev e with
 | .p l o=>match s.get l with
  | some (.c cs z ty)=>match (v.ev e).isVal with
   | true=>match lenIs (v.ev e).cells n with
    | true=>match Nat.ble z o with
     | true=>fPut cs o (v.ev e).cells fun cs=>fS (s.put l (some (.c cs z ty))) fun s=>next unV s
     | false=>False
    | false=>False
   | false=>False
  | _=>False
 | _=>False
def wqLoad (e : List V) (s : St) (n : Nat) (a : Arg) (next : V → St → Prop) : Prop :=
  match a.ev e with
  | .p l o => match s.get l with
    | some (.c cs _ _) => fDrop cs o n fun cs => next (.ag cs) s
    | _ => False
  | .q v o => fDrop v.cells o n fun cs => next (.ag cs) s
  | _ => False
theorem wqStore_ok {n:Nat}{a v:Arg}{next:V→St→Prop}(h:wqStore e s n a v next):∃u s',aop e s (.store n a v)=some (u,s')∧next u s':=by
 unfold wqStore at h
 split at h
 ·rename_i l o ha
  split at h
  ·rename_i cs z ty hs
   split at h
   ·rename_i hv
    split at h
    ·rename_i hn
     split at h
     ·rename_i hz
      obtain ⟨h1,h2⟩:=fPut_ok _ _ _ _ h
      rw [fS_eq] at h2
      have hn:=lenIs_ok _ _ hn
      refine ⟨_,_, ?_,h2⟩
      simp only[aop,ha,hs]
      rw [if_pos ⟨hv,hn,by omega, .inr (Nat.le_of_ble_eq_true hz)⟩]
      rw [setAt_take _ _ _ h1]
     ·exact h.elim
    ·exact h.elim
   ·exact h.elim
  ·exact h.elim
 ·exact h.elim
theorem wqLoad_ok {n : Nat} {a : Arg} {next : V → St → Prop} (h : wqLoad e s n a next) : ∃ u s', aop e s (.loadn n a) = some (u, s') ∧ next u s' := by
  unfold wqLoad at h
  split at h
  · rename_i l o ha
    split at h
    · rename_i cs z ty hs
      obtain ⟨h1, h2⟩ := fDrop_ok _ _ _ _ h
      refine ⟨_, _, ?_, h2⟩
      simp only [aop, ha, hs]
      rw [if_pos h1]
    · exact h.elim
  · rename_i v o ha
    obtain ⟨h1, h2⟩ := fDrop_ok _ _ _ _ h
    refine ⟨_, _, ?_, h2⟩
    simp only [aop, ha]
    rw [if_pos h1]
  · exact h.elim
def fNth (cs:List V)(o:Nat)(k:V→Prop):Prop:=match o with
 | 0=>(match cs with
  | c::_=>k c
  | []=>False)
 | o+1=>(match cs with
  | _::r=>fNth r o k
  | []=>False)
theorem fNth_ok:∀(o:Nat)(cs:List V)(k:V→Prop),fNth cs o k→∃v,cs[o]? =some v∧k v
 | 0,c::_,k,h=>⟨c,rfl,h⟩
 | 0,[],k,h=>by simp[fNth] at h
 | o+1,_::r,k,h=>by simpa using fNth_ok o r k h
 | o+1,[],k,h=>by simp[fNth] at h
def wqLoad1 (e:List V)(s:St)(a:Arg)(next:V→St→Prop):Prop:=
 match a.ev e with
 | .p l o=>match s.get l with
  | some (.c cs _ _)=>fNth cs o fun v=>next v s
  | _=>False
 | .q v o=>fNth v.cells o fun v=>next v s
 | _=>False
theorem wqLoad1_ok {a:Arg}{next:V→St→Prop}(h:wqLoad1 e s a next):∃u s',aop e s (.load1 a)=some (u,s')∧next u s':=by
 unfold wqLoad1 at h
 split at h
 ·rename_i l o ha
  split at h
  ·rename_i cs z ty hs
   obtain ⟨v,h1,h2⟩:=fNth_ok _ _ _ h
   exact ⟨v,s,by simp only[aop,ha,hs,h1,Option.map_some],h2⟩
  ·exact h.elim
 ·rename_i v o ha
  obtain ⟨v,h1,h2⟩:=fNth_ok _ _ _ h
  exact ⟨v,s,by simp only[aop,ha,h1,Option.map_some],h2⟩
 ·exact h.elim
def wqA (e : List V) (s : St) (y : A) (next : V → St → Prop) : Prop :=
  match y with
  | .pick c a b => match c.ev e with
    | .b t => brB t (next (a.ev e) s) (next (b.ev e) s)
    | _ => False
  | .ia sz x i => match x.ev e with
    | .pu z xs _ => (match i.ev e with
      | .i _ k => z = sz ∧ 0 ≤ k ∧ ∃ m, xs[k.toNat]? = some m ∧ next (.q m 0) s
      | _ => False)
    | .sl z l o n _ => (match i.ev e with
      | .i _ k => z = sz ∧ 0 ≤ k ∧ k < n ∧ next (.p l (o + k.toNat * sz)) s
      | _ => False)
    | _ => False
  | .idxS x i => match x.ev e with
    | .s l => (match i.ev e with
      | .i _ k => 0 ≤ k ∧ ∃ b, l[k.toNat]? = some b ∧ next (.i .u8 b.toNat) s
      | _ => False)
    | _ => False
  | .eql neg (.g ks) x y => match x.ev e with
    | .ag a => (match y.ev e with
      | .ag b => (match gEq ks a b with
        | some r => (match neg with | true => next (.b !r) s | false => next (.b r) s)
        | none => False)
      | _ => False)
    | _ => False
  | .eql neg kd x y => match peq kd (x.ev e) (y.ev e) with
    | some r => (match neg with | true => next (.b !r) s | false => next (.b r) s)
    | none => False
  | .slc sz x l h m => ∃ v s', aop e s (.slc sz x l h m) = some (v, s') ∧ next v s'
  | .slS x l h => ∃ v s', aop e s (.slS x l h) = some (v, s') ∧ next v s'
  | .slA sz len x l h m => ∃ v s', aop e s (.slA sz len x l h m) = some (v, s') ∧ next v s'
  | .app t w ag sz bytes x y => ∃ v s', aop e s (.app t w ag sz bytes x y) = some (v, s') ∧ next v s'
  | .cpy sz x y => ∃ v s', aop e s (.cpy sz x y) = some (v, s') ∧ next v s'
  | .mks t sz bytes z n c => ∃ v s', aop e s (.mks t sz bytes z n c) = some (v, s') ∧ next v s'
  | .b2s x => ∃ v s', aop e s (.b2s x) = some (v, s') ∧ next v s'
  | .bin .quo x y => ∃ v, binV .quo (x.ev e) (y.ev e) = some v ∧ next v s
  | .bin .rem x y => ∃ v, binV .rem (x.ev e) (y.ev e) = some v ∧ next v s
  | .bin op x y => match x.ev e with
    | .s a => ∃ v, binV op (.s a) (y.ev e) = some v ∧ next v s
    | xv => match binV op xv (y.ev e) with
      | some v => next v s
      | none => False
  | .store n a v => wqStore e s n a v next
  | .loadn n a => wqLoad e s n a next
  | .load1 a => wqLoad1 e s a next
  | .alloc t z => match s with
    | ⟨h, n, g⟩ => fS ⟨Tr.put (some (.c z 0 (some t))) (n + 1) h n, n + 1, g⟩ fun s => next (.p n 0) s
  | y => match aop e s y with
    | some (v, s') => next v s'
    | none => False
theorem wqA_ok {y : A} {next : V → St → Prop} (h : wqA e s y next) : ∃ v s', aop e s y = some (v, s') ∧ next v s' := by
  unfold wqA at h
  split at h
  · split at h
    · rename_i t ht
      cases t
      · exact ⟨_, s, by simp only [aop, ht], h.f rfl⟩
      · exact ⟨_, s, by simp only [aop, ht], h.t rfl⟩
    · exact h.elim
  · split at h
    · rename_i z xs c hx
      split at h
      · rename_i kk k hi
        obtain ⟨rfl, h1, m, h2, h3⟩ := h
        exact ⟨_, s, by simp only [aop, hx, hi]; simp [h1, h2], h3⟩
      · exact h.elim
    · rename_i z l o n c hx
      split at h
      · rename_i kk k hi
        obtain ⟨rfl, h1, h2, h3⟩ := h
        exact ⟨_, s, by simp only [aop, hx, hi]; simp [h1, h2], h3⟩
      · exact h.elim
    · exact h.elim
  · split at h
    · rename_i l hx
      split at h
      · rename_i kk k hi
        obtain ⟨h1, b, h2, h3⟩ := h
        exact ⟨_, s, by simp only [aop, hx, hi]; simp [h1, h2], h3⟩
      · exact h.elim
    · exact h.elim
  · rename_i neg ks x y
    split at h
    · rename_i a hx
      split at h
      · rename_i b hy
        split at h
        · rename_i r hr
          obtain ⟨h1, h2, h3⟩ := gEq_veqs ks a b r hr
          split at h
          · exact ⟨_, s, by simp only [aop, hx, hy, peq, h2, h3, and_self, if_true, h1, Option.map_some], h⟩
          · exact ⟨_, s, by simp only [aop, hx, hy, peq, h2, h3, and_self, if_true, h1, Option.map_some, Bool.false_eq_true, if_false], h⟩
        · exact h.elim
      · exact h.elim
    · exact h.elim
  · split at h
    · rename_i r hr
      split at h
      · exact ⟨_, s, by simp only [aop, hr, Option.map_some, if_true], h⟩
      · exact ⟨_, s, by simp only [aop, hr, Option.map_some, Bool.false_eq_true, if_false], h⟩
    · exact h.elim
  all_goals first
    | exact wqStore_ok h
    | exact wqLoad_ok h
    | exact wqLoad1_ok h
    | exact h
    | (cases s; simp only [fS_eq] at h; exact ⟨_, _, rfl, h⟩)
    | (obtain ⟨v, h1, h2⟩ := h; exact ⟨v, s, by simp only [aop, h1, Option.map_some], h2⟩)
    | (split at h
       · rename_i a hx
         obtain ⟨v, h1, h2⟩ := h; exact ⟨v, s, by simp only [aop, hx, h1, Option.map_some], h2⟩
       · split at h
         · rename_i v hv; exact ⟨v, s, by simp only [aop, hv, Option.map_some], h⟩
         · exact h.elim)
    | (split at h
       · rename_i v s' hk; exact ⟨v, s', hk, h⟩
       · exact h.elim)
def wqK (gt:Nat→Option V)(P:Program)(e:List V)(s:St)(k:K)(next:V→St→Prop):Prop:=
 match k with
 | .a y=>wqA e s y next
 | .call f args=>∃v s',Den gt P f (args.map (·.ev e)) s v s'∧next v s'
 | .callv f args=>match f.ev e with
  | .fn g cap=>callOk P g=true∧∃v s',Den gt P g (args.map (·.ev e)++cap) s v s'∧next v s'
  | _=>False
 | .pan _=>False
 | .bad=>False
theorem wqK_ok {k:K}{next:V→St→Prop}(h:wqK gt P e s k next):∃v s',KRun gt P e s k v s'∧next v s':=by
 cases k with
 | a y=>exact wqA_ok h
 | call f args=>exact h
 | callv f args=>
  simp only[wqK] at h
  split at h
  ·rename_i g cap hf
   obtain ⟨h0,v,s',h1,h2⟩:=h
   exact ⟨v,s',⟨g,cap,hf,h0,h1⟩,h2⟩
  ·exact h.elim
 | pan x=>exact h.elim
 | bad=>exact h.elim
def Good (s:St):Prop:=(∀l o,s.get l=some o→s.L l)∧∀l∈s.g,l<s.n
theorem Cf.good {c:C}(h:Good s→Cf gt P wf c e s Q):Cf gt P wf c e s Q:=fun code hc cxb wb cx w act N=>
 h ⟨fun l o hg=>N.R.name_L hg,N.R.gl⟩ code hc cxb wb cx w act N
theorem Cf.goods {c:C}(h:Cf gt P wf c e s fun x e' s'=>Good s'→Q x e' s'):Cf gt P wf c e s Q:=fun code hc cxb wb cx w act N=>
 wp_mono (h code hc cxb wb cx w act N) fun _ _ _ ⟨x,e',s',cx',h1,h2,h3⟩=>⟨x,e',s',cx',h1,h2 ⟨fun l o hg=>h3.R.name_L hg,h3.R.gl⟩,h3⟩
def finq (rs:List Rs)(v:V)(x:X)(e:List V)(s:St):Prop:=
 match x with
 | .exit _=>False
 | _=>match resV e s rs with
  | some vs=>fL vs fun vs=>fV (packV vs) fun u=>u=v
  | none=>False
theorem finq_fin {rs:List Rs}{v:V}{x:X}{e:List V}{s:St}(h:finq rs v x e s):fin rs v x e s:=by
 unfold finq at h
 unfold fin
 split at h
 ·exact h.elim
 ·split
  ·rename_i h0;exact(h0 _ rfl).elim
  ·split at h
   ·rename_i vs hvs;rw[hvs];simpa only[fL_eq,fV_eq] using h
   ·exact h.elim
structure HO (gt:Nat→Option V) (P:Program) (l:List I) (e:List V) (s:St) (next:List V→St→Prop):Prop where
 out :∃e' s',Run gt P l e s e' s'∧next e' s'
structure HD (gt:Nat→Option V) (P:Program) (hist:List St) (l:List (Nat×I)) (e:List V) (s:St) (next:List V→St→Prop):Prop where
 out :∃e' s',RunD gt P hist l e s e' s'∧next e' s'
structure HC (gt:Nat→Option V) (P:Program) (c:C) (e:List V) (s:St) (Q:X→List V→St→Prop):Prop where
 out :∀wf,Cf gt P wf c e s Q
def hN (gt:Nat→Option V)(P:Program)(d:Option Nat)(r:List I)(next:List V→St→Prop)(e:List V)(v:V)(s':St):Prop:=
 fV v fun v=>fSetD e d v fun e=>HO gt P r e s' next
def hG (gt:Nat→Option V)(P:Program)(t:Nat)(w:Bool)(d:Option Nat)(k:K)(r:List I)(next:List V→St→Prop)(e:List V)(s:St)(v:V):Prop:=match v with
 | .b b=>match w with
  | true=>brB b (fSet e t (.b true) fun e=>wqK gt P e s k (hN gt P d r next e)) (fSet e t (.b false) fun e=>fSetD e d unV fun e=>HO gt P r e s next)
  | false=>brB b (fSet e t (.b true) fun e=>fSetD e d unV fun e=>HO gt P r e s next) (fSet e t (.b false) fun e=>wqK gt P e s k (hN gt P d r next e))
 | .bad=>False
 | _=>fSetD e d unV fun e=>HO gt P r e s next
theorem HO.nil {next:List V→St→Prop}(h:next e s):HO gt P [] e s next:=⟨e,s, .nil _ _,h⟩
theorem HO.op {d:Option Nat}{g:Option (Nat×Bool)}{k:K}{r:List I}{next:List V→St→Prop}(hw:wanted e g=some true)(h:wqK gt P e s k (hN gt P d r next e)):HO gt P ({d:=d,g:=g,k:=k}::r) e s next:=by
 obtain ⟨v,s1,h1,h2⟩:=wqK_ok h
 simp only[hN,fV_eq,fS_eq,fSetD_eq] at h2
 obtain ⟨e',s',h3,h4⟩:=h2.out
 exact ⟨e',s', .op v s1 hw h1 h3,h4⟩
theorem HO.no {d:Option Nat}{g:Option (Nat×Bool)}{k:K}{r:List I}{next:List V→St→Prop}(hw:wanted e g=some false)(h:fSetD e d unV fun e=>HO gt P r e s next):HO gt P ({d:=d,g:=g,k:=k}::r) e s next:=by
 rw [fSetD_eq] at h
 obtain ⟨e',s',h3,h4⟩:=h.out
 exact ⟨e',s', .skip hw h3,h4⟩
theorem HO.k {d:Option Nat}{k:K}{r:List I}{next:List V→St→Prop}(h:wqK gt P e s k (hN gt P d r next e)):HO gt P ({d:=d,g:=none,k:=k}::r) e s next:=HO.op rfl h
theorem HO.g {d:Option Nat}{t:Nat}{w:Bool}{k:K}{r:List I}{next:List V→St→Prop}(h:hG gt P t w d k r next e s (e.getD t unV)):HO gt P ({d:=d,g:=some (t,w),k:=k}::r) e s next:=by
 unfold hG at h
 split at h
 ·rename_i b hb
  cases hb':b
  ·subst hb'
   cases w
   ·have h:=h.f rfl
    rw [fSet_eq,set_self hb] at h
    exact HO.op (by simp only[wanted,hb];rfl) h
   ·have h:=h.f rfl
    rw [fSet_eq,set_self hb] at h
    exact HO.no (by simp only[wanted,hb];rfl) h
  ·subst hb'
   cases w
   ·have h:=h.t rfl
    rw [fSet_eq,set_self hb] at h
    exact HO.no (by simp only[wanted,hb];rfl) h
   ·have h:=h.t rfl
    rw [fSet_eq,set_self hb] at h
    exact HO.op (by simp only[wanted,hb];rfl) h
 ·exact h.elim
 ·refine HO.no ?_ h
  unfold wanted
  simp only
def hDN (gt:Nat→Option V)(P:Program)(hist:List St)(b:Nat)(d:Option Nat)(k:K)(r:List (Nat×I))(next:List V→St→Prop)(e:List V)(s:St)(v:V)(s':St):Prop:=
 fV v fun v=>match k.cls with
  | 2=>fSetD e d v fun e=>HD gt P (s::hist) r e s' next
  | 0=>fSetD e d v fun e=>HD gt P hist r e s' next
  | _=>match hist.take b with
   | []=>fSetD e d v fun e=>HD gt P hist r e s' next
   | l=>stays gt P e v k l∧fSetD e d v fun e=>HD gt P hist r e s' next
def hDS (gt:Nat→Option V)(P:Program)(hist:List St)(d:Option Nat)(k:K)(r:List (Nat×I))(next:List V→St→Prop)(s:St)(e:List V):Prop:=
 fSetD e d unV fun e=>HD gt P (match k.cls with|2=>s::hist|_=>hist) r e s next
def hDG (gt:Nat→Option V)(P:Program)(hist:List St)(b:Nat)(t:Nat)(w:Bool)(d:Option Nat)(k:K)(r:List (Nat×I))(next:List V→St→Prop)(e:List V)(s:St)(v:V):Prop:=match v with
 | .b x=>match w with
  | true=>brB x (fSet e t (.b true) fun e=>wqK gt P e s k (hDN gt P hist b d k r next e s)) (fSet e t (.b false) (hDS gt P hist d k r next s))
  | false=>brB x (fSet e t (.b true) (hDS gt P hist d k r next s)) (fSet e t (.b false) fun e=>wqK gt P e s k (hDN gt P hist b d k r next e s))
 | .bad=>False
 | _=>hDS gt P hist d k r next s e
theorem HD.nil {hist:List St}{next:List V→St→Prop}(h:next e s):HD gt P hist [] e s next:=⟨e,s, .nil _ _ _,h⟩
theorem HD.op {hist:List St}{b:Nat}{d:Option Nat}{g:Option (Nat×Bool)}{k:K}{r:List (Nat×I)}{next:List V→St→Prop}(hw:wanted e g=some true)(h:wqK gt P e s k (hDN gt P hist b d k r next e s)):HD gt P hist ((b,{d:=d,g:=g,k:=k})::r) e s next:=by
 obtain ⟨v,s1,h1,h2⟩:=wqK_ok h
 simp only[hDN,fV_eq,fS_eq,fSetD_eq] at h2
 split at h2
 ·rename_i hc
  obtain ⟨e',s',h3,h4⟩:=h2.out
  exact ⟨e',s', .op2 v s1 hw hc h1 h3,h4⟩
 ·rename_i hc
  obtain ⟨hs,ht⟩:=krun_cls0 hc h1
  subst hs
  obtain ⟨e',s',h3,h4⟩:=h2.out
  exact ⟨e',s', .op0 v hw (by show k.cls≠2;omega) h1 (fun t _=>ht t) h3,h4⟩
 ·rename_i hc2 hc0
  have hs:=krun_cls hc2 h1
  subst hs
  split at h2
  ·rename_i hl
   obtain ⟨e',s',h3,h4⟩:=h2.out
   exact ⟨e',s', .op0 v hw hc2 h1 (fun t ht=>by rw[hl] at ht;simp at ht) h3,h4⟩
  ·obtain⟨e',s',h3,h4⟩:=h2.2.out
   exact ⟨e',s', .op0 v hw hc2 h1 (stays_ok hc2 h2.1) h3,h4⟩
theorem HD.no {hist:List St}{b:Nat}{d:Option Nat}{g:Option (Nat×Bool)}{k:K}{r:List (Nat×I)}{next:List V→St→Prop}(hw:wanted e g=some false)(h:hDS gt P hist d k r next s e):HD gt P hist ((b,{d:=d,g:=g,k:=k})::r) e s next:=by
 unfold hDS at h
 rw [fSetD_eq] at h
 obtain ⟨e',s',h3,h4⟩:=h.out
 refine ⟨e',s', .skip hw ?_,h4⟩
 split at h3
 ·rename_i hc;rw[if_pos hc];exact h3
 ·rename_i hc;rw[if_neg hc];exact h3
theorem HD.k {hist:List St}{b:Nat}{d:Option Nat}{k:K}{r:List (Nat×I)}{next:List V→St→Prop}(h:wqK gt P e s k (hDN gt P hist b d k r next e s)):HD gt P hist ((b,{d:=d,g:=none,k:=k})::r) e s next:=HD.op rfl h
theorem HD.g {hist:List St}{b:Nat}{d:Option Nat}{t:Nat}{w:Bool}{k:K}{r:List (Nat×I)}{next:List V→St→Prop}(h:hDG gt P hist b t w d k r next e s (e.getD t unV)):HD gt P hist ((b,{d:=d,g:=some (t,w),k:=k})::r) e s next:=by
 unfold hDG at h
 split at h
 ·rename_i x hb
  cases hb':x
  ·subst hb'
   cases w
   ·have h:=h.f rfl
    rw [fSet_eq,set_self hb] at h
    exact HD.op (by simp only[wanted,hb];rfl) h
   ·have h:=h.f rfl
    rw [fSet_eq,set_self hb] at h
    exact HD.no (by simp only[wanted,hb];rfl) h
  ·subst hb'
   cases w
   ·have h:=h.t rfl
    rw [fSet_eq,set_self hb] at h
    exact HD.no (by simp only[wanted,hb];rfl) h
   ·have h:=h.t rfl
    rw [fSet_eq,set_self hb] at h
    exact HD.op (by simp only[wanted,hb];rfl) h
 ·exact h.elim
 ·refine HD.no ?_ h
  unfold wanted
  simp only
def hS (gt:Nat→Option V)(P:Program)(b:C)(Q:X→List V→St→Prop)(x:X)(e:List V)(s:St):Prop:=match x with
 | .nrm=>HC gt P b e s Q
 | x=>Q x e s
def hB (id:Nat)(Q:X→List V→St→Prop)(x:X)(e:List V)(s:St):Prop:=match x with
 | .exit i=>(match Nat.beq i id with
  | true=>Q .nrm e s
  | false=>Q (.exit i) e s)
 | x=>Q x e s
def hT (gt:Nat→Option V)(P:Program)(v:V)(a b:C)(e:List V)(s:St)(Q:X→List V→St→Prop):Prop:=match v with
 | .b t=>brB t (HC gt P a e s Q) (HC gt P b e s Q)
 | _=>False
def hL (Inv:Nat→List V→St→Prop)(n:Nat)(Q:X→List V→St→Prop)(x:X)(e:List V)(s:St):Prop:=match x with
 | .nrm=>Good s→∃m e1 s1,m<n∧Wk e1 s1 e s∧Inv m e1 s1
 | x=>Q x e s
theorem HC.skip (h:Q .nrm e s):HC gt P .skip e s Q:=⟨fun _=>(Co.skip h).cf⟩
theorem HC.exit {id:Nat}(h:Q (.exit id) e s):HC gt P (.exit id) e s Q:=⟨fun _=>(Co.exit h).cf⟩
theorem HC.ret (h:Q .ret e s):HC gt P .ret e s Q:=⟨fun _=>(Co.ret h).cf⟩
theorem HC.ops {l:List I}(h:HO gt P l e s (Q .nrm)):HC gt P (.ops l) e s Q:=⟨fun _=>let⟨_,_,h1,h2⟩:=h.out;(Co.ops h1 h2).cf⟩
theorem HC.drw (hm:P.follows .mixedOrders=true){l:List (Nat×I)}(h:HD gt P [] l e s (Q .nrm)):HC gt P (.drw l) e s Q:=⟨fun _=>let⟨_,_,h1,h2⟩:=h.out;(Co.drw hm h1 h2).cf⟩
theorem HC.seq {a b:C}(h:HC gt P a e s (hS gt P b Q)):HC gt P (.seq a b) e s Q:=⟨fun wf=>Cf.seq ((h.out wf).mono fun x e' s' h1=>by
 cases x with
 | nrm=>exact HC.out h1 wf
 | _=>exact h1)⟩
theorem HC.blk {id:Nat}{a:C}(h:HC gt P a e s (hB id Q)):HC gt P (.blk id a) e s Q:=⟨fun wf=>Cf.blk ((h.out wf).mono fun x e' s' h1=>by
 cases x with
 | exit i=>
  simp only[hB] at h1
  cases hb:Nat.beq i id with
  | true=>rw[hb] at h1;simp only;rw[if_pos (Nat.eq_of_beq_eq_true hb)];exact h1
  | false=>rw[hb] at h1;simp only;rw[if_neg (Nat.ne_of_beq_eq_false hb)];exact h1
 | _=>exact h1)⟩
theorem HC.cond {c:Arg}{a b:C}(h:hT gt P (c.ev e) a b e s Q):HC gt P (.cond c a b) e s Q:=⟨fun wf=>by
 unfold hT at h
 split at h
 ·rename_i t ht
  refine Cf.cond ht ?_
  cases t
  ·exact(h.f rfl).out wf
  ·exact(h.t rfl).out wf
 ·exact h.elim⟩
theorem HC.loop (hgt:GNm gt){a:C}(h:Good s→∃(Inv:Nat→List V→St→Prop),(∃n e0 s0,Wk e0 s0 e s∧Inv n e0 s0)∧∀n e s,Inv n e s→HC gt P a e s (hL Inv n Q)):HC gt P (.loop a) e s Q:=⟨fun wf=>by
 refine Cf.good fun hg=> ?_
 obtain ⟨Inv,⟨n,e0,s0,hk,h0⟩,hr⟩:=h hg
 refine Cf.pre hgt hk ?_
 refine Cf.loop hgt Inv h0 fun n e s hi=>Cf.goods (((hr n e s hi).out wf).mono fun x e' s' h1=> ?_)
 cases x with
 | nrm=>exact h1
 | _=>exact fun _=>h1⟩
theorem PDen.hc {f:FuncId}{F:F}{args:List V}{v:V}(hgt:GNm gt)(hF:cF gt P wf f=some F)(ha:∀x∈args,Nm s0.L x)(hn:Nm s0.L v)
  (h:HC gt P F.body (args++List.replicate (F.nt-args.length) unV) s0 (finq F.res v)):PDen gt P f args v:=
 PDen.of hgt hF ha hn ((h.out wf).mono fun _ _ _ h=>fin_ok (finq_fin h))
end
end Rf
namespace Rf
open Go
inductive Rd (s:St):V→V→Prop
 | refl (v:V):Rd s v v
 | ag (cs ds:List V) (hl:cs.length=ds.length) (h:∀j,j<cs.length→Rd s (cs.getD j .bad) (ds.getD j .bad)):Rd s (.ag cs) (.ag ds)
 | tu (cs ds:List V) (hl:cs.length=ds.length) (h:∀j,j<cs.length→Rd s (cs.getD j .bad) (ds.getD j .bad)):Rd s (.tu cs) (.tu ds)
 | ifc (t:Nat) (v u:V) (h:Rd s v u):Rd s (.ifc t v) (.ifc t u)
 | p (l o:Nat) (cs:List V) (z:Nat) (t:Option Nat) (ds:List V) (hg:s.get l=some (.c cs z t)) (hlen:ds.length≤cs.length) (h:∀j,j<ds.length→Rd s (cs.getD j .bad) (ds.getD j .bad)):Rd s (.p l o) (.q (.ag ds) o)
 | sl (sz l o n:Nat) (c:Option Nat) (cs:List V) (z:Nat) (t:Option Nat) (xs:List V) (hg:s.get l=some (.c cs z t)) (hlen:o+n* sz≤cs.length) (hx:xs.length=n) (hs:∀i,i<n→(xs.getD i .bad).cells.length=sz)
   (h:∀i j,i<n→j<sz→Rd s (cs.getD (o+i* sz+j) .bad) ((xs.getD i .bad).cells.getD j .bad)):Rd s (.sl sz l o n c) (.pu sz xs .u)
def Cx.still (cx:Cx)(s:St)(h:Array Obj):Cx:={cx with fz:=fun b o=>(cx.fz b o∨∃l cs z t,s.get l=some (.c cs z t)∧b=(cx.r l).b∧(cx.r l).d≤o∧o<(cx.r l).d+cs.length)∧(cellAt h b o).isSome}
def St.bare (s:St):St:={h:= .e,n:=s.n,g:=s.g}
theorem St.bare_get (s:St)(l:Nat):s.bare.get l=none:=by
 simp [St.get,St.bare,Tr.get]
theorem still_later {cx:Cx}{s:St}{h:Array Obj}(R:Rel cx s h):Later cx h s.L (cx.still s h) h s.L:=
 ⟨fun _ h=>h,fun _ _=>rfl,fun _ _=> .inl rfl,fun b o hf=>⟨.inl hf,R.fzl b o hf⟩,fun _ _ _=>rfl,fun _ _ _=>rfl⟩
theorem Rd.rep {cx:Cx}{s:St}{h:Array Obj}(R:Rel cx s h){v u:V}(hr:Rd s v u):∀ {x:Value},VRep cx h s.L v x→VRep (cx.still s h) h s.L u x:=by
 induction hr with
 | refl v=>intro x hv;exact hv.later (still_later R)
 | ag cs ds hl _ ih=>
  intro x hv
  cases hv with
  | ag _ vs hs h1 hv=>exact .ag ds vs (by omega) (fun j hj=>h1 j (by omega)) (fun j hj=>ih j (by omega) (hv j (by omega)))
 | tu cs ds hl _ ih=>
  intro x hv
  cases hv with
  | tu _ vs hs hv=>exact .tu ds vs (by omega) (fun j hj=>ih j (by omega) (hv j (by omega)))
 | ifc t v u _ ih=>
  intro x hv
  cases hv with
  | ifc _ _ y hv=>exact .ifc t u y (ih hv)
 | p l o cs z t ds hg hlen _ ih=>
  intro x hv
  cases hv with
  | p _ _ hl=>
   obtain ⟨arr,el,lo,hi,a1,⟨a2,-⟩,a3,a4,-⟩:=R.obj l _ hg
   have hc:∀j,j<ds.length→cellAt h (cx.r l).b ((cx.r l).d+j)=some (arr.getD ((cx.r l).d+j) undef):=fun j hj=>by
    have hlt:(cx.r l).d+j<arr.size:=by omega
    rw [cellAt_of a1];simp[Array.getD_eq_getD_getElem?,hlt]
   exact .q (.ag ds) o (cx.r l).b (cx.r l).d (fun j=>arr.getD ((cx.r l).d+j) undef) (fun j hj=>a3 j (by simp only[V.cells] at hj;omega))
    (fun j hj=>⟨.inr ⟨l,cs,z,t,hg,rfl,by omega,by simp only[V.cells] at hj;omega⟩,by rw[hc j hj];rfl⟩) (fun j hj=>hc j hj) (fun j hj=>ih j hj (a4 j (by simp only[V.cells] at hj;omega)))
 | sl sz l o n c cs z t xs hg hlen hx hs _ ih=>
  intro x hv
  cases hv with
  | sl _ _ _ _ _ cap hl hk hc0=>
   obtain ⟨arr,el,lo,hi,a1,⟨a2,-⟩,a3,a4,-⟩:=R.obj l _ hg
   subst hx
   have hij:∀i j,i<xs.length→j<sz→o+i* sz+j<cs.length:=fun i j hi hj=>by
    have :i* sz+sz≤xs.length* sz:=by rw[←Nat.succ_mul];exact Nat.mul_le_mul_right sz hi
    omega
   have hc:∀i j,i<xs.length→j<sz→cellAt h (cx.r l).b ((cx.r l).d+o+i* sz+j)=some (arr.getD ((cx.r l).d+(o+i* sz+j)) undef):=fun i j hi hj=>by
    have :=hij i j hi hj
    have hlt:(cx.r l).d+o+i* sz+j<arr.size:=by omega
    have e:(cx.r l).d+(o+i* sz+j)=(cx.r l).d+o+i* sz+j:=by omega
    rw [cellAt_of a1,e];simp[Array.getD_eq_getD_getElem?,hlt]
   exact .pu sz xs .u ⟨(cx.r l).b,(cx.r l).d+o,none⟩ cap (fun i j=>arr.getD ((cx.r l).d+(o+i* sz+j)) undef) (fun _=>rfl) (fun i j hi hj=>a3 _ (hij i j hi hj)) (fun i hi=>hs i hi)
    (fun i j hi hj=>⟨.inr ⟨l,cs,z,t,hg,rfl,by show _≤(cx.r l).d+o+i* sz+j;omega,by have:=hij i j hi hj;show(cx.r l).d+o+i* sz+j<_;omega⟩,by rw[hc i j hi hj];rfl⟩) (fun i j hi hj=>hc i j hi hj)
    (fun i j hi hj=>ih i j hi hj (a4 _ (hij i j hi hj))) hk trivial (fun k hk=>by cases hk)
theorem bare_rel {cx:Cx}{s:St}{h:Array Obj}(R:Rel cx s h):Rel (cx.still s h) s.bare h where
 wf :=fun l _=>s.bare_get l
 gl :=R.gl
 obj :=fun l o h=>by rw[St.bare_get] at h;cases h
 inj :=fun l _ o _ h=>by rw[St.bare_get] at h;cases h
 fzl :=fun _ _ h=>h.2
 fzo :=fun l _ _ _ h=>by rw[St.bare_get] at h;cases h
 fzt :=fun l _ h=>by rw[St.bare_get] at h;cases h
section
variable {gt:Nat→Option V} {P:Program}
def Plain (v:V):Prop:=∀cx h n x cx' h' n',VRep cx h n v x→VRep cx' h' n' v x
theorem plain_b (b:Bool):Plain (.b b):=fun _ _ _ _ _ _ _ h=>by cases h;exact .b b
theorem plain_i (k:IntKind)(n:Int):Plain (.i k n):=fun _ _ _ _ _ _ _ h=>by cases h;exact .i k n
theorem plain_s (l:List UInt8):Plain (.s l):=fun _ _ _ _ _ _ _ h=>by cases h;exact .s l
theorem Den.still {f:FuncId}{args args':List V}{v:V}{s s1:St}(hD:Den gt P f args' s.bare v s1)(hl:args.length=args'.length)(hA:∀j,j<args.length→Rd s (args.getD j .bad) (args'.getD j .bad))(hv:Plain v):Den gt P f args s v s:=by
 intro cx w xs R G A
 refine (hD (cx.still s w.heap) w xs (bare_rel R) (G.later (still_later R)) ⟨by rw[A.len,hl],fun j hj=>(hA j (by omega)).rep R (A.rep j (by omega))⟩).mono fun e w' ⟨x,cx',h1,h2,h3,h4,h5⟩=> ?_
 have hno:∀b,¬Own (cx.still s w.heap) s.bare b:=fun b ⟨l,o,hg,_⟩=>by rw[St.bare_get] at hg;cases hg
 have hblk:∀b,b<w.heap.size→w'.heap[b]? =w.heap[b]? :=fun b hb=>h4.frame b hb (hno b)
 have hcell:∀b o,cx.fz b o→cellAt w'.heap b o=cellAt w.heap b o:=fun b o hf=>by
  have :=cellAt_lt (R.fzl b o hf)
  unfold cellAt;rw[hblk b this]
 have L2:Later cx w.heap s.L cx w'.heap s.L:=⟨fun _ h=>h,fun _ _=>rfl,fun _ _=> .inl rfl,fun _ _ h=>h,hcell,fun b o hf=>szAt_same (hblk b (cellAt_lt (R.fzl b o hf)))⟩
 refine ⟨x,cx,h1,hv _ _ _ _ _ _ _ h2,⟨R.wf,R.gl,fun l o hg=> ?_,R.inj,fun b o hf=>by rw[hcell b o hf];exact R.fzl b o hf,R.fzo,R.fzt⟩,⟨L2,h4.size,fun b hb _=>hblk b hb,fun b hb=> .inl hb,fun b o hf=> .inl hf⟩,h5⟩
 have h6:=R.obj l o hg
 have hb:blk cx l o<w.heap.size:=R.own_lt ⟨l,o,hg,rfl⟩
 cases o with
 | c cs z ty=>
  obtain ⟨arr,el,lo,hi,a1,a2,a3,a4,a5⟩:=h6
  exact ⟨arr,el,lo,hi,by rw[←a1];exact hblk _ hb,a2,a3,fun j hj=>(a4 j hj).later L2,a5⟩
 | t e=>
  obtain ⟨arr,el,lo,hi,a1,a2,a3,a4⟩:=h6
  exact ⟨arr,el,lo,hi,by rw[←a1];exact hblk _ hb,a2,a3,a4⟩
 | x o=>exact⟨h6.1,XRep.later L2 (hblk _ hb) h6.2⟩
theorem PDen.still {f:FuncId}{args args':List V}{v:V}{s:St}(hD:PDen gt P f args' v)(hl:args.length=args'.length)(hA:∀j,j<args.length→Rd s (args.getD j .bad) (args'.getD j .bad))(hv:Plain v):Den gt P f args s v s:=
 Den.still (hD s.bare) hl hA hv
theorem Rd2 {s:St}{a b a' b':V}(h1:Rd s a a')(h2:Rd s b b'):∀j,j< [a,b].length→Rd s ([a,b].getD j .bad) ([a',b'].getD j .bad):=fun j hj=>by
 match j,hj with
 | 0,_=>exact h1
 | 1,_=>exact h2
theorem VRep.empty {cx:Cx}{h:Array Obj}{n:Nat→Prop}{sz:Nat}{x:Value}(hv:VRep cx h n (.pu sz [] .u) x):VRep cx h n .ns x∨VRep cx h n (.pu sz [] .z) x:=by
 cases hv with
 | pu0=>exact .inl .ns
 | pu _ _ _ a cap f ha h1 hs hz hc hv hl hr hp=>exact .inr (.pu sz [] .z a cap f ha h1 hs hz hc hv hl trivial (fun k hk=>by cases hk))
theorem Den.empty1 {f:FuncId}{sz:Nat}{v:V}{s s1:St}(h1:Den gt P f [.ns] s v s1)(h2:Den gt P f [.pu sz [] .z] s v s1):Den gt P f [.pu sz [] .u] s v s1:=by
 intro cx w xs R G A
 have hx:=A.rep 0 (by simp)
 rcases hx.empty with hx|hx
 ·exact h1 cx w xs R G ⟨A.len,fun j hj=>by
   match j,hj with
   | 0,_=>exact hx⟩
 ·exact h2 cx w xs R G ⟨A.len,fun j hj=>by
   match j,hj with
   | 0,_=>exact hx⟩
end
end Rf
namespace Rf
open Go
inductive Sh (d:Nat):V→V→Prop
 | nm (v:V) (h:Nm s0.L v):Sh d v v
 | p (l o:Nat):Sh d (.p l o) (.p (d+l) o)
 | sl (z l o n:Nat) (c:Option Nat):Sh d (.sl z l o n c) (.sl z (d+l) o n c)
 | ag (cs ds:List V) (hl:cs.length=ds.length) (h:∀j,j<cs.length→Sh d (cs.getD j .bad) (ds.getD j .bad)):Sh d (.ag cs) (.ag ds)
 | tu (cs ds:List V) (hl:cs.length=ds.length) (h:∀j,j<cs.length→Sh d (cs.getD j .bad) (ds.getD j .bad)):Sh d (.tu cs) (.tu ds)
def ShO (d:Nat):O→O→Prop
 | .c cs z t, .c cs' z' t'=>cs.length=cs'.length∧z=z'∧t=t'∧∀j,j<cs.length→Sh d (cs.getD j .bad) (cs'.getD j .bad)
 | .t e, .t e'=>e=e'
 | _,_=>False
theorem VRep.unname {cx cx':Cx}{h:Array Obj}{n n':Nat→Prop}(hf:∀b o,cx.fz b o→cx'.fz b o){v:V}{x:Value}(hv:VRep cx h n v x)(hn:Nm s0.L v):VRep cx' h n' v x:=
 VRep.later (cx:=cx') (h:=h) (n:=s0.L) ⟨fun _ h=>(Nat.not_lt_zero _ h.1).elim,fun _ _=>rfl,fun _ _=> .inl rfl,fun _ _ h=>h,fun _ _ _=>rfl,fun _ _ _=>rfl⟩
  (VRep.names (n':=s0.L) (fun _ h=>(Nat.not_lt_zero _ h.1).elim) (fun _ h=>(Nat.not_lt_zero _ h.1).elim) hf (fun _ _ _=>rfl) hv hn)
section
variable {gt:Nat→Option V} {P:Program}
theorem PDen.freeze {f:FuncId}{args:List V}{v u:V}{s1:St}(hgt:GNm gt)(ha:∀x∈args,Nm s0.L x)(hu:Nm s0.L u)(hD:Den gt P f args s0 v s1)(hr:Rd s1 v u):PDen gt P f args u:=fun s=>by
 refine Den.pure hgt ha hu (s':=s0) ?_ s
 intro cx w xs R G A
 refine (hD cx w xs R G A).mono fun e w' ⟨x,cx',h1,h2,h3,h4,h5⟩=> ?_
 have r1:=hr.rep h3 h2
 refine ⟨x,cx'.still s1 w'.heap,h1,r1.unname (fun _ _ h=>h) hu,rel_s0 (bare_rel h3), ?_,h5⟩
 refine ⟨⟨fun _ h=>h,fun _ h=>(Nat.not_lt_zero _ h.1).elim,fun _ h=>(Nat.not_lt_zero _ h.1).elim,fun b o hf=>⟨.inl (h4.later.fz b o hf),h3.fzl b o (h4.later.fz b o hf)⟩,h4.later.cell,h4.later.sz⟩,h4.size,h4.frame,fun b hb=>(not_own_s0 _ b hb).elim,fun b o hf=> ?_⟩
 rcases hf.1 with h6|⟨l,cs,z,t,hl,hb,-⟩
 ·exact h4.nfz b o h6
 ·rcases h4.own b ⟨l,_,hl,hb.symm⟩ with h7|h7
  ·exact .inr (.inl h7)
  ·exact .inr (.inr h7)
end
end Rf
namespace Rf
open Go
def Acc (s:St)(sz:Nat)(v:V)(xs:List V):Option Nat→Prop
 | none=>v= .ns∧xs=[]
 | some k=>v= .pu sz xs (.t k)∧s.get k=some (.t (xs.length* sz))
theorem Acc.nil (s:St)(sz:Nat):Acc s sz .ns [] none:=⟨rfl,rfl⟩
theorem Acc.vw {s:St}{sz:Nat}{v:V}{xs:List V}{o:Option Nat}(h:Acc s sz v xs o):Vw1 v (.pu sz xs .u):=by
 cases o with
 | none=>obtain⟨rfl,rfl⟩:=h;exact .ns sz
 | some k=>obtain⟨rfl,-⟩:=h;exact .pu sz xs _
theorem Acc.keep {s s':St}{sz:Nat}{v:V}{xs:List V}{o:Option Nat}(h:Acc s sz v xs o)(hs:∀k,o=some k→s'.get k=s.get k):Acc s' sz v xs o:=by
 cases o with
 | none=>exact h
 | some k=>exact⟨h.1,by rw[hs k rfl];exact h.2⟩
theorem Acc.lt {s:St}{sz:Nat}{v:V}{xs:List V}{k:Nat}(hg:Good s)(h:Acc s sz v xs (some k)):k<s.n:=(hg.1 _ _ h.2).1
theorem Good.put {s:St}{l:Nat}{o o':O}(h:Good s)(hg:s.get l=some o):Good (s.put l (some o')):=by
 refine ⟨fun j x hx=> ?_,h.2⟩
 by_cases e:j=l
 ·subst e;exact h.1 j o hg
 ·rw[St.get_put_ne _ _ _ _ e] at hx;exact h.1 j x hx
theorem Good.new {s:St}{o:O}(h:Good s):Good (s.new o):=by
 refine ⟨fun j x hx=> ?_,fun l hl=>Nat.lt_succ_of_lt (h.2 l hl)⟩
 by_cases e:j=s.n
 ·subst e;exact St.new_L0 _ h.2
 ·rw[St.get_new_ne _ _ _ e] at hx;exact St.new_L _ (h.1 j x hx)
theorem Acc.app2 {s:St}{sz:Nat}{xs:List V}{o:Option Nat}{e:List V}{x y:Arg}{t bytes n:Nat}{ag:Bool}{cs:List V}(hg:Good s)(h:Acc s sz (x.ev e) xs o)(hy:srcOf s sz (y.ev e)=some (n,cs))(hr:room (xs.length+n) bytes=true):
  ∃ v s' o',aop e s (.app t true ag sz bytes x y)=some (v,s')∧Acc s' sz v (xs++chunks ag sz cs n) o'∧Good s'∧(o'=o∨(o=none∧o'=some s.n))∧s.n≤s'.n∧s'.g=s.g∧∀j,o'≠some j→j<s.n→s'.get j=s.get j:=by
 by_cases hn:n=0
 ·subst hn
  cases o with
  | none=>
   obtain ⟨hx,rfl⟩:=h
   exact ⟨.ns,s,none,by simp[aop,hx,hy,appV],⟨rfl,rfl⟩,hg, .inl rfl,Nat.le_refl _,rfl,fun _ _ _=>rfl⟩
  | some k=>
   obtain ⟨hx,hk⟩:=h
   exact ⟨.pu sz xs (.t k),s,some k,by simp[aop,hx,hy,appV],⟨by simp[chunks],by simpa[chunks] using hk⟩,hg, .inl rfl,Nat.le_refl _,rfl,fun _ _ _=>rfl⟩
 ·cases o with
  | none=>
   obtain ⟨hx,rfl⟩:=h
   have hr':room n bytes=true:=by simpa using hr
   refine ⟨.pu sz (chunks ag sz cs n) (.t s.n),s.new (.t (n* sz)),some s.n,by simp[aop,hx,hy,appV,hn,hr'],⟨by simp,by rw[St.get_new_same];simp[chunks_len]⟩,hg.new, .inr ⟨rfl,rfl⟩,Nat.le_succ _,rfl,fun j _ hlt=> ?_⟩
   rw [St.get_new_ne _ _ _ (Nat.ne_of_lt hlt)]
  | some k=>
   obtain ⟨hx,hk⟩:=h
   refine ⟨.pu sz (xs++chunks ag sz cs n) (.t k),s.put k (some (.t ((xs.length+n)* sz))),some k,by simp[aop,hx,hy,appV,hn,hr,hk],⟨rfl,by rw[St.get_put_same];simp[chunks_len]⟩,hg.put hk, .inl rfl,Nat.le_refl _,rfl,fun j hj _=> ?_⟩
   rw [St.get_put_ne _ _ _ _ (fun e=>hj (by rw[e]))]
section
variable {gt:Nat→Option V} {P:Program}
theorem hN_abs {e:List V}{d:Option Nat}{r:List I}{next:List V→St→Prop}{v:V}{s':St}(h:fSetD e d v fun e=>HO gt P r e s' next):hN gt P d r next e v s':=by
 unfold hN;rw[fV_eq];exact h
theorem setAt_all {cs z:List V}(h:cs.length=z.length):setAt z 0 cs=cs:=by
 rw [setAt_take cs z 0 (by omega)]
 simp [h]
theorem aop_bsl1 {e:List V}{s:St}{t sz:Nat}{z cs:List V}{x:Arg}(hx:x.ev e= .ag cs)(hz:z.length=sz)(hc:cs.length=sz):aop e s (.bsl t true true 1 sz z [(0,sz,x)])=some (.pu sz [.ag cs] (.x 1),s):=by
 have hr:(List.replicate 1 z).flatten=z:=by simp
 have hcl:(V.ag cs).cells=cs:=rfl
 have hf:fillp e z [(0,sz,x)]=some cs:=by
  simp only[fillp,hx,hcl]
  rw [if_pos ⟨rfl,hc,by omega⟩,setAt_all (by omega)]
 simp only[aop,hr,hf,chunks,mkEl,if_true]
 rw [List.take_of_length_le (by omega)]
theorem HO.bsl1 {e:List V}{s:St}{d:Option Nat}{t sz:Nat}{z cs:List V}{x:Arg}{r:List I}{next:List V→St→Prop}(hx:x.ev e= .ag cs)(hz:z.length=sz)(hc:cs.length=sz)(h:fSetD e d (.pu sz [.ag cs] (.x 1)) fun e=>HO gt P r e s next):
  HO gt P ({d:=d,g:=none,k:= .a (.bsl t true true 1 sz z [(0,sz,x)])}::r) e s next:=by
 rw [fSetD_eq] at h
 obtain ⟨e',s',h3,h4⟩:=h.out
 exact ⟨e',s', .op _ s rfl (aop_bsl1 hx hz hc) h3,h4⟩
theorem src_single {s:St}{sz:Nat}{c:Cap}{cs:List V}:srcOf s sz (.pu sz [.ag cs] c)=some (1,([V.ag cs].map V.cells).flatten):=by simp[srcOf]
theorem chunk_single {sz:Nat}{cs:List V}(h:cs.length=sz):chunks true sz (([V.ag cs].map V.cells).flatten) 1=[.ag cs]:=by
 subst h
 simp [chunks,mkEl,V.cells]
end
end Rf
namespace Rf
open Go
section
variable {gt:Nat→Option V} {P:Program} {e:List V} {s:St}
theorem HO.opA {d:Option Nat}{k:K}{r:List I}{next:List V→St→Prop}{v:V}{s1:St}(hk:KRun gt P e s k v s1)(h:fSetD e d v fun e=>HO gt P r e s1 next):HO gt P ({d:=d,g:=none,k:=k}::r) e s next:=by
 rw [fSetD_eq] at h
 obtain ⟨e',s',h3,h4⟩:=h.out
 exact ⟨e',s', .op v s1 rfl hk h3,h4⟩
theorem HO.gA {d:Option Nat}{t:Nat}{w:Bool}{k:K}{r:List I}{next:List V→St→Prop}{v:V}{s1:St}(hw:e.getD t unV= .b w)(hk:KRun gt P e s k v s1)(h:fSetD e d v fun e=>HO gt P r e s1 next):HO gt P ({d:=d,g:=some (t,w),k:=k}::r) e s next:=by
 rw [fSetD_eq] at h
 obtain ⟨e',s',h3,h4⟩:=h.out
 refine ⟨e',s', .op v s1 ?_ hk h3,h4⟩
 simp only[wanted,hw,beq_self_eq_true]
theorem krun_load1 {a:Arg}{l o z:Nat}{cs:List V}{ty:Option Nat}{v:V}(ha:a.ev e= .p l o)(hg:s.get l=some (.c cs z ty))(hc:cs[o]? =some v):KRun gt P e s (.a (.load1 a)) v s:=by
 show aop e s (.load1 a)=_
 simp only[aop,ha,hg,hc,Option.map_some]
theorem krun_loadn {n:Nat}{a:Arg}{l o z:Nat}{cs cs':List V}{ty:Option Nat}(ha:a.ev e= .p l o)(hg:s.get l=some (.c cs z ty))(ho:o+n≤cs.length)(hc:(cs.drop o).take n=cs'):KRun gt P e s (.a (.loadn n a)) (.ag cs') s:=by
 subst hc
 show aop e s (.loadn n a)=_
 simp only[aop,ha,hg]
 rw [if_pos ho]
theorem krun_store {n l o z:Nat}{a x:Arg}{cs cs':List V}{ty:Option Nat}{v:V}(ha:a.ev e= .p l o)(hx:x.ev e=v)(hg:s.get l=some (.c cs z ty))(hv:v.isVal=true)(hn:v.cells.length=n)(hz:z≤o)(ho:o+n≤cs.length)(hc:setAt cs o v.cells=cs'):KRun gt P e s (.a (.store n a x)) unV (s.put l (some (.c cs' z ty))):=by
 subst hc hx
 show aop e s (.store n a x)=_
 simp only[aop,ha,hg]
 rw [if_pos ⟨hv,hn,ho, .inr hz⟩]
theorem krun_alloc {t:Nat}{z:List V}:KRun gt P e s (.a (.alloc t z)) (.p s.n 0) (s.new (.c z 0 (some t))):=rfl
theorem HD.opA2 {hist:List St}{b:Nat}{d:Option Nat}{k:K}{r:List (Nat×I)}{next:List V→St→Prop}{v:V}{s1:St}(hk:KRun gt P e s k v s1)(hc:k.cls=2)(h:fSetD e d v fun e=>HD gt P (s::hist) r e s1 next):HD gt P hist ((b,{d:=d,g:=none,k:=k})::r) e s next:=by
 rw [fSetD_eq] at h
 obtain ⟨e',s',h3,h4⟩:=h.out
 exact ⟨e',s', .op2 v s1 rfl hc hk h3,h4⟩
theorem HD.opA0 {hist:List St}{b:Nat}{d:Option Nat}{k:K}{r:List (Nat×I)}{next:List V→St→Prop}{v:V}(hk:KRun gt P e s k v s)(hc:k.cls≠2)(hb:∀t∈hist.take b,KRun gt P e t k v t)(h:fSetD e d v fun e=>HD gt P hist r e s next):HD gt P hist ((b,{d:=d,g:=none,k:=k})::r) e s next:=by
 rw [fSetD_eq] at h
 obtain ⟨e',s',h3,h4⟩:=h.out
 exact ⟨e',s', .op0 v rfl hc hk hb h3,h4⟩
structure Is (s:St) (os:List O):Prop where
 n :s.n=os.length
 g :s.g=[]
 o :∀l,s.get l=os[l]?
def Le (s s':St):Prop:=∀l o,s.get l=some o→s'.get l=some o
end
end Rf
namespace Rf
open Go
inductive Nth:List V→Nat→V→Prop
 | zero {v:V} {r:List V}:Nth (v::r) 0 v
 | succ {x v:V} {r:List V} {n:Nat} (h:Nth r n v):Nth (x::r) (n+1) v
theorem Nth.get {e:List V}{n:Nat}{v:V}(h:Nth e n v):e.getD n unV=v:=by
 induction h with
 | zero=>rfl
 | succ _ ih=>simpa using ih
section
variable {gt:Nat→Option V} {P:Program} {e:List V} {s:St}
theorem krun_mov {t:Nat}{v:V}(h:Nth e t v):KRun gt P e s (.a (.mov (.t t))) v s:=by
 show aop e s (.mov (.t t))=_
 simp only[aop,Arg.ev,h.get]
theorem krun_box {t T:Nat}{v:V}(h:Nth e t v)(hv:v.isVal=true):KRun gt P e s (.a (.box T true (.t t))) (.q v 0) s:=by
 show aop e s (.box T true (.t t))=_
 have e1:(Arg.t t).ev e=v:=h.get
 simp only[aop,e1]
 rw [if_pos hv]
theorem krun_nilc {x:Arg}{l o:Nat}(hx:x.ev e= .p l o):KRun gt P e s (.a (.nilc x)) (.p l o) s:=by
 show aop e s (.nilc x)=_
 simp only[aop,hx]
theorem krun_fa {off l o:Nat}{a:Arg}(ha:a.ev e= .p l o):KRun gt P e s (.a (.fa off a)) (.p l (o+off)) s:=by
 show aop e s (.fa off a)=_
 simp only[aop,ha]
theorem krun_ia {sz l o n i:Nat}{c:Option Nat}{k:IntKind}{x y:Arg}(hx:x.ev e= .sl sz l o n c)(hy:y.ev e= .i k ((i:Nat):Int))(hi:i<n):KRun gt P e s (.a (.ia sz x y)) (.p l (o+i* sz)) s:=by
 show aop e s (.ia sz x y)=_
 simp only[aop,hx,hy]
 rw [if_pos ⟨trivial,Int.natCast_nonneg _,by omega⟩]
 rfl
theorem krun_load_all {n:Nat}{a:Arg}{l z:Nat}{cs:List V}{ty:Option Nat}(ha:a.ev e= .p l 0)(hg:s.get l=some (.c cs z ty))(hn:cs.length=n):KRun gt P e s (.a (.loadn n a)) (.ag cs) s:=by
 show aop e s (.loadn n a)=_
 simp only[aop,ha,hg]
 rw [if_pos (by omega)]
 subst hn
 simp
theorem fillp_cons {z cs:List V}{o n:Nat}{x:Arg}{r:List (Nat×Nat×Arg)}{v:V}(hx:x.ev e=v)(hv:v.isVal=true)(hl:v.cells.length=n)(ho:o+n≤z.length)(h:fillp e (setAt z o v.cells) r=some cs):fillp e z ((o,n,x)::r)=some cs:=by
 subst hx
 simp only[fillp]
 rw [if_pos ⟨hv,hl,ho⟩]
 exact h
theorem krun_build {z cs:List V}{ps:List (Nat×Nat×Arg)}(h:fillp e z ps=some cs):KRun gt P e s (.a (.build z ps)) (.ag cs) s:=by
 show aop e s (.build z ps)=_
 simp only[aop,h,Option.map_some]
def K.mem:K→Bool
 | .a (.store ..)=>true
 | .a (.alloc ..)=>true
 | .a (.box _ false _)=>true
 | .a (.build ..)=>true
 | .a (.bsl _ true false _ _ _ _)=>true
 | .a (.load1 ..)=>true
 | .a (.loadn ..)=>true
 | _=>false
theorem HO.kx {d:Option Nat}{k:K}{r:List I}{next:List V→St→Prop}(_:k.mem=false)(h:wqK gt P e s k (hN gt P d r next e)):HO gt P ({d:=d,g:=none,k:=k}::r) e s next:=HO.k h
theorem HO.lq1 {d:Option Nat}{a:Arg}{v:V}{o:Nat}{r:List I}{next:List V→St→Prop}(_:a.ev e= .q v o)(h:wqK gt P e s (.a (.load1 a)) (hN gt P d r next e)):HO gt P ({d:=d,g:=none,k:= .a (.load1 a)}::r) e s next:=HO.k h
theorem HO.lqn {d:Option Nat}{n:Nat}{a:Arg}{v:V}{o:Nat}{r:List I}{next:List V→St→Prop}(_:a.ev e= .q v o)(h:wqK gt P e s (.a (.loadn n a)) (hN gt P d r next e)):HO gt P ({d:=d,g:=none,k:= .a (.loadn n a)}::r) e s next:=HO.k h
theorem HD.lq1 {hist:List St}{b:Nat}{d:Option Nat}{a:Arg}{v:V}{o:Nat}{r:List (Nat×I)}{next:List V→St→Prop}(_:a.ev e= .q v o)(h:wqK gt P e s (.a (.load1 a)) (hDN gt P hist b d (.a (.load1 a)) r next e s)):HD gt P hist ((b,{d:=d,g:=none,k:= .a (.load1 a)})::r) e s next:=HD.k h
theorem HD.lqn {hist:List St}{b n:Nat}{d:Option Nat}{a:Arg}{v:V}{o:Nat}{r:List (Nat×I)}{next:List V→St→Prop}(_:a.ev e= .q v o)(h:wqK gt P e s (.a (.loadn n a)) (hDN gt P hist b d (.a (.loadn n a)) r next e s)):HD gt P hist ((b,{d:=d,g:=none,k:= .a (.loadn n a)})::r) e s next:=HD.k h
theorem stays_one {v:V}{t s':St}{l:List St}{y:A}(h:aop e t y=some (v,s')):stays gt P e v (.a y) (List.take 1 (t::l)):=by
 simp only[List.take,stays,h,and_self]
theorem Rd.le {s':St}(hs:Le s s'){v u:V}(h:Rd s v u):Rd s' v u:=by
 induction h with
 | refl v=>exact .refl v
 | ag cs ds hl _ ih=>exact .ag cs ds hl ih
 | tu cs ds hl _ ih=>exact .tu cs ds hl ih
 | ifc t v u _ ih=>exact .ifc t v u ih
 | p l o cs z t ds hg hlen _ ih=>exact .p l o cs z t ds (hs _ _ hg) hlen ih
 | sl sz l o n c cs z t xs hg hlen hx hsz _ ih=>exact .sl sz l o n c cs z t xs (hs _ _ hg) hlen hx hsz ih
end
end Rf
namespace Rf
open Go
section
variable {s:St} {d:Nat}
end
end Rf
namespace Rf
open Go
def nmR (p:Nat→Nat)(m:Nat)(a b:Nat):Bool:=Nat.blt b m&&Nat.beq a (p b)
def capRn (p:Nat→Nat)(m:Nat):Cap→Cap→Bool
 | .u, .u=>true
 | .z, .z=>true
 | .x a, .x b=>Nat.beq a b
 | .t a, .t b=>nmR p m a b
 | _,_=>false
def renN (p:Nat→Nat)(m:Nat):Nat→V→V→Bool
 | 0,_,_=>false
 | k+1,x,y=>match x,y with
  | .bad, .bad=>true
  | .b a, .b b=>a==b
  | .i k a, .i k' b=>decide (k=k')&&eqZ a b
  | .s a, .s b=>a==b
  | .np, .np=>true
  | .p l o, .p l' o'=>nmR p m l l'&&Nat.beq o o'
  | .q v o, .q v' o'=>sameL (renN p m k) v.cells v'.cells&&Nat.beq o o'
  | .ns, .ns=>true
  | .sl z l o n c, .sl z' l' o' n' c'=>Nat.beq z z'&&nmR p m l l'&&Nat.beq o o'&&Nat.beq n n'&&decide (c=c')
  | .se z l, .se z' l'=>Nat.beq z z'&&nmR p m l l'
  | .pu z xs c, .pu z' ys c'=>Nat.beq z z'&&capRn p m c c'&&sameL (fun a b=>sameL (renN p m k) a.cells b.cells) xs ys
  | .tp a x, .tp b y=>Nat.beq a b&&Nat.beq x y
  | .nm, .nm=>true
  | .m l, .m l'=>nmR p m l l'
  | .fn f cs, .fn f' ds=>Nat.beq f f'&&sameL (renN p m k) cs ds
  | .nf, .nf=>true
  | .ifc t v, .ifc t' v'=>Nat.beq t t'&&renN p m k v v'
  | .ni, .ni=>true
  | .ag xs, .ag ys=>sameL (renN p m k) xs ys
  | .tu xs, .tu ys=>sameL (renN p m k) xs ys
  | .yl l, .yl l'=>nmR p m l l'
  | _,_=>false
theorem sameL_get {p:V→V→Bool}:∀(x y:List V),sameL p x y=true→x.length=y.length∧∀j,j<x.length→p (x.getD j .bad) (y.getD j .bad)=true
 | [],[],_=>⟨rfl,fun j hj=>by simp at hj⟩
 | a::x,b::y,h=>by
  simp only[sameL,Bool.and_eq_true] at h
  obtain ⟨h1,h2⟩:=sameL_get x y h.2
  refine ⟨by simp[h1],fun j hj=> ?_⟩
  cases j with
  | zero=>exact h.1
  | succ j=>simpa using h2 j (by simpa using hj)
 | [],_::_,h=>by cases h
 | _::_,[],h=>by cases h
def Cx.ren (cx:Cx)(p:Nat→Nat):Cx:=⟨fun l=>cx.r (p l),fun l=>cx.tk (p l),cx.fz⟩
theorem nmR_iff {p:Nat→Nat}{m a b:Nat}:nmR p m a b=true↔b<m∧a=p b:=by
 simp [nmR,Nat.blt_eq,Nat.beq_eq]
theorem VRep.ren {cx:Cx}{h:Array Obj}{n n2:Nat→Prop}{p:Nat→Nat}{m:Nat}(hm:∀l,l<m→n2 l):∀(k:Nat)(v v2:V)(x:Value),renN p m k v v2=true→VRep cx h n v x→VRep (cx.ren p) h n2 v2 x
 | 0,v,v2,x,hs,hv=>by cases hs
 | k+1,v,v2,x,hs,hv=>by
  have ih:=VRep.ren (cx:=cx) (h:=h) (n:=n) (p:=p) hm k
  unfold renN at hs
  split at hs
  ·exact .bad _
  ·rw[beq_iff_eq] at hs;subst hs;cases hv;exact .b _
  ·simp only[Bool.and_eq_true,decide_eq_true_eq,eqZ_eq,beq_iff_eq] at hs
   obtain ⟨rfl,rfl⟩:=hs
   cases hv;exact .i _ _
  ·rw[beq_iff_eq] at hs;subst hs;cases hv;exact .s _
  ·cases hv;exact .np
  ·simp only[Bool.and_eq_true,nmR_iff,Nat.beq_eq] at hs
   obtain ⟨⟨h1,rfl⟩,rfl⟩:=hs
   cases hv
   exact .p (cx:=cx.ren p) _ _ (hm _ h1)
  ·simp only[Bool.and_eq_true,Nat.beq_eq] at hs
   obtain ⟨h1,rfl⟩:=hs
   obtain ⟨q1,q2⟩:=sameL_get _ _ h1
   cases hv with
   | q v o b d f g1 gz gc gv=>
    exact .q (cx:=cx.ren p) _ _ b d f (fun j hj=>g1 j (by omega)) (fun j hj=>gz j (by omega)) (fun j hj=>gc j (by omega)) (fun j hj=>ih _ _ _ (q2 j (by omega)) (gv j (by omega)))
  ·cases hv;exact .ns
  ·simp only[Bool.and_eq_true,nmR_iff,Nat.beq_eq,decide_eq_true_eq] at hs
   obtain ⟨⟨⟨⟨rfl,h1,rfl⟩,rfl⟩,rfl⟩,rfl⟩:=hs
   cases hv with
   | sl sz l o k c cap hl hk hc=>exact .sl (cx:=cx.ren p) _ _ _ _ _ cap (hm _ h1) hk hc
  ·simp only[Bool.and_eq_true,nmR_iff,Nat.beq_eq] at hs
   obtain ⟨rfl,h1,rfl⟩:=hs
   cases hv with
   | se sz l a cap hl hc=>exact .se (cx:=cx.ren p) _ _ a cap (hm _ h1) hc
  ·rename_i z xs c z' ys c'
   simp only[Bool.and_eq_true,Nat.beq_eq] at hs
   obtain ⟨⟨rfl,hc1⟩,hxs⟩:=hs
   obtain ⟨q1,q2⟩:=sameL_get _ _ hxs
   cases hv with
   | pu0 sz c hc0=>
    have :ys=[]:=by cases ys with
     | nil=>rfl
     | cons=>simp at q1
    subst this
    refine .pu0 _ _ ?_
    cases c<;>cases c'<;>simp_all [capRn,capN]
   | pu sz xs c a cap f ha h1 hs hz hc hv hl hr hp=>
    rw [q1]
    have hys:∀i,i<ys.length→i<xs.length:=fun i hi=>by omega
    have hcl:∀i,i<ys.length→(xs.getD i .bad).cells.length=(ys.getD i .bad).cells.length∧∀j,j<(xs.getD i .bad).cells.length→renN p m k ((xs.getD i .bad).cells.getD j .bad) ((ys.getD i .bad).cells.getD j .bad)=true:=fun i hi=>sameL_get _ _ (q2 i (hys i hi))
    refine .pu (cx:=cx.ren p) z ys c' a cap f (fun hne=>ha (fun e=>hne ?_)) (fun i j hi hj=>h1 i j (hys i hi) hj) (fun i hi=> ?_) (fun i j hi hj=>hz i j (hys i hi) hj) (fun i j hi hj=>hc i j (hys i hi) hj) (fun i j hi hj=> ?_) (by omega) ?_ (fun k' hk'=> ?_)
    ·subst e;cases ys with
     | nil=>rfl
     | cons=>simp at q1
    ·rw[←(hcl i hi).1];exact hs i (hys i hi)
    ·exact ih _ _ _ ((hcl i hi).2 j (by rw[hs i (hys i hi)];exact hj)) (hv i j (hys i hi) hj)
    ·cases c<;>cases c'<;>simp only[capRn,nmR_iff,Nat.beq_eq] at hc1<;>first|(cases hc1;done)|skip
     ·trivial
     ·subst hc1;exact hr
     ·obtain⟨g1,rfl⟩:=hc1
      rw [q1] at hr
      exact ⟨hm _ g1,hr.2⟩
     ·trivial
    ·subst hk'
     cases c<;>simp only[capRn,nmR_iff] at hc1<;>first|(cases hc1;done)|skip
     exact hp _ rfl
  ·simp only[Bool.and_eq_true,Nat.beq_eq] at hs
   obtain ⟨rfl,rfl⟩:=hs
   cases hv;exact .tp _ _
  ·cases hv;exact .nm
  ·rw[nmR_iff] at hs
   obtain ⟨h1,rfl⟩:=hs
   cases hv;exact .m (cx:=cx.ren p) _ (hm _ h1)
  ·simp only[Bool.and_eq_true,Nat.beq_eq] at hs
   obtain ⟨rfl,h1⟩:=hs
   obtain ⟨q1,q2⟩:=sameL_get _ _ h1
   cases hv with
   | fn f cs vs hs hv=>exact .fn _ _ vs (by omega) (fun j hj=>ih _ _ _ (q2 j (by omega)) (hv j (by omega)))
  ·cases hv;exact .nf
  ·simp only[Bool.and_eq_true,Nat.beq_eq] at hs
   obtain ⟨rfl,h1⟩:=hs
   cases hv with
   | ifc t v x hv=>exact .ifc _ _ _ (ih _ _ _ h1 hv)
  ·cases hv;exact .ni
  ·obtain⟨q1,q2⟩:=sameL_get _ _ hs
   cases hv with
   | ag cs vs hs h1 hv=>exact .ag _ vs (by omega) (fun j hj=>h1 j (by omega)) (fun j hj=>ih _ _ _ (q2 j (by omega)) (hv j (by omega)))
  ·obtain⟨q1,q2⟩:=sameL_get _ _ hs
   cases hv with
   | tu cs vs hs hv=>exact .tu _ vs (by omega) (fun j hj=>ih _ _ _ (q2 j (by omega)) (hv j (by omega)))
  ·rw[nmR_iff] at hs
   obtain ⟨h1,rfl⟩:=hs
   cases hv;exact .yl (cx:=cx.ren p) _ (hm _ h1)
  ·cases hs
def lR {α:Type}(q:α→α→Bool):List α→List α→Bool
 | [],[]=>true
 | a::x,b::y=>q a b&&lR q x y
 | _,_=>false
def entR (p:Nat→Nat)(m k:Nat)(a b:V×V×Nat):Bool:=renN p m k a.1 b.1&&(renN p m k a.2.1 b.2.1&&Nat.beq a.2.2 b.2.2)
def oR (p:Nat→Nat)(m k:Nat):O→O→Bool
 | .c cs z t, .c cs' z' t'=>sameL (renN p m k) cs cs'&&(Nat.beq z z'&&decide (t=t'))
 | .t e, .t e'=>Nat.beq e e'
 | .x (.mp es c), .x (.mp es' c')=>lR (entR p m k) es es'&&Nat.beq c c'
 | .x (.it none a b c), .x (.it none a' b' c')=>Nat.beq a a'&&(decide (b=b')&&Nat.beq c c')
 | .x (.it (some l) a b c), .x (.it (some l') a' b' c')=>nmR p m l l'&&(Nat.beq a a'&&(decide (b=b')&&Nat.beq c c'))
 | .x (.df a), .x (.df b)=>a==b
 | _,_=>false
theorem ER.ren {cx:Cx}{h:Array Obj}{n n2:Nat→Prop}{p:Nat→Nat}{m k:Nat}(hm:∀l,l<m→n2 l):∀(es es':List (V×V×Nat))(l:List MapEntry),lR (entR p m k) es es'=true→All2 (ER cx h n) es l→All2 (ER (cx.ren p) h n2) es' l
 | [],[],l,_,H=>by cases H;exact .nil
 | a::x,b::y,l,hs,H=>by
  simp only[lR,entR,Bool.and_eq_true,Nat.beq_eq] at hs
  obtain ⟨⟨h1,h2,h3⟩,h4⟩:=hs
  cases H with
  | cons g t=>exact .cons ⟨by rw[←h3];exact g.1,g.2.1.ren hm k _ _ _ h1,g.2.2.ren hm k _ _ _ h2⟩ (ER.ren hm x y _ h4 t)
 | [],_::_,_,h,_=>by cases h
 | _::_,[],_,h,_=>by cases h
theorem ORep.ren {cx:Cx}{h:Array Obj}{n n2:Nat→Prop}{p:Nat→Nat}{m k:Nat}(hm:∀l,l<m→n2 l){l:Nat}{o o2:O}(hs:oR p m k o o2=true)(H:ORep cx h n (p l) o):ORep (cx.ren p) h n2 l o2∧blk (cx.ren p) l o2=blk cx (p l) o:=by
 unfold oR at hs
 split at hs
 ·simp only[Bool.and_eq_true,Nat.beq_eq,decide_eq_true_eq] at hs
  obtain ⟨h1,rfl,rfl⟩:=hs
  obtain ⟨q1,q2⟩:=sameL_get _ _ h1
  obtain ⟨arr,el,lo,hi,a1,a2,a3,a4,a5⟩:=H
  refine ⟨⟨arr,el,lo,hi,a1, ?_,fun j hj=>a3 j (by omega),fun j hj=>VRep.ren hm k _ _ _ (q2 j (by omega)) (a4 j (by omega)),a5⟩,rfl⟩
  rw [←q1];exact a2
 ·simp only[Nat.beq_eq] at hs
  subst hs
  exact ⟨H,rfl⟩
 ·simp only[Bool.and_eq_true,Nat.beq_eq] at hs
  obtain ⟨h1,rfl⟩:=hs
  obtain ⟨g1,lst,g2,g3⟩:=H
  exact ⟨⟨g1,lst,g2,ER.ren hm _ _ _ h1 g3⟩,rfl⟩
 ·simp only[Bool.and_eq_true,Nat.beq_eq,decide_eq_true_eq] at hs
  obtain ⟨rfl,rfl,rfl⟩:=hs
  obtain ⟨g1,g2,g3⟩:=H
  exact ⟨⟨g1,g2,fun k hk=>by cases hk⟩,rfl⟩
 ·simp only[Bool.and_eq_true,Nat.beq_eq,decide_eq_true_eq,nmR_iff] at hs
  obtain ⟨⟨h1,rfl⟩,rfl,rfl,rfl⟩:=hs
  obtain ⟨g1,g2,g3⟩:=H
  exact ⟨⟨g1,g2,fun k hk=>by cases hk;exact hm _ h1⟩,rfl⟩
 ·rw[beq_iff_eq] at hs
  subst hs
  exact ⟨H,rfl⟩
 ·cases hs
def Tr.allK {α:Type}(q:Nat→α→Bool):Nat→Nat→Tr α→Bool
 | _,_, .e=>true
 | a,b, .n l x r=>(match x with
  | none=>true
  | some y=>q b y)&&(Tr.allK q (2* a) (a+b) l&&Tr.allK q (2* a) (2* a+b) r)
theorem Tr.allK_get {α:Type}{q:Nat→α→Bool}:∀(f:Nat)(t:Tr α)(a b k:Nat)(y:α),Tr.allK q a b t=true→Tr.get f t k=some y→q (a* k+b) y=true:=by
 intro f
 induction f with
 | zero=>intro t a b k y _ h;cases h
 | succ f ih=>
  intro t a b k y ha h
  cases t with
  | e=>cases h
  | n l x r=>
   simp only[Tr.allK,Bool.and_eq_true] at ha
   obtain ⟨h1,h2,h3⟩:=ha
   simp only[Tr.get] at h
   by_cases h0:k=0
   ·subst h0
    simp only[if_true] at h
    subst h
    simpa using h1
   ·rw[if_neg h0] at h
    by_cases hk:k % 2=1
    ·rw[if_pos hk] at h
     have :=ih l _ _ _ _ h2 h
     have e:a* k+b=2* a* (k/2)+(a+b):=by
      have hk2:k=2* (k/2)+1:=by omega
      generalize k/2=x at hk2
      subst hk2
      rw [Nat.mul_add,Nat.mul_one,Nat.mul_left_comm a 2 x,Nat.mul_assoc 2 a x];omega
     rw [e];exact this
    ·rw[if_neg hk] at h
     have :=ih r _ _ _ _ h3 h
     have e:a* k+b=2* a* (k/2-1)+(2* a+b):=by
      have hk2:k=2* (k/2-1)+2:=by omega
      generalize k/2-1=x at hk2
      subst hk2
      rw [Nat.mul_add,Nat.mul_left_comm a 2 x,Nat.mul_assoc 2 a x,Nat.mul_comm a 2];omega
     rw [e];exact this
def stR (p r:Nat→Nat)(k n0:Nat)(s s2:St):Bool:=
 s2.g.isEmpty&&(Nat.ble n0 s2.n&&Tr.allK (fun l o2=>Nat.blt l s2.n&&(Nat.beq (r (p l)) l&&(match s.get (p l) with
  | some o=>oR p s2.n k o o2
  | none=>false))) 1 0 s2.h)
structure StR (p r:Nat→Nat) (k n0:Nat) (s s2:St):Prop where
 g :s2.g=[]
 n :n0≤s2.n
 o :∀l o2,s2.get l=some o2→l<s2.n∧r (p l)=l∧∃o,s.get (p l)=some o∧oR p s2.n k o o2=true
theorem stR_iff {p r:Nat→Nat}{k n0:Nat}{s s2:St}(h:stR p r k n0 s s2=true):StR p r k n0 s s2:=by
 simp only[stR,Bool.and_eq_true,List.isEmpty_iff,Nat.ble_eq] at h
 obtain ⟨h1,h2,h3⟩:=h
 refine ⟨h1,h2,fun l o2 hl=> ?_⟩
 have :=Tr.allK_get (l+1) s2.h 1 0 l o2 h3 hl
 rw [Nat.one_mul,Nat.add_zero] at this
 simp only[Bool.and_eq_true,Nat.blt_eq,Nat.beq_eq] at this
 obtain ⟨g1,g2,g3⟩:=this
 refine ⟨g1,g2, ?_⟩
 split at g3
 ·rename_i o ho;exact⟨o,ho,g3⟩
 ·cases g3
theorem StR.L {p r:Nat→Nat}{k n0:Nat}{s s2:St}(H:StR p r k n0 s s2){l:Nat}(hl:l<s2.n):s2.L l:=⟨hl,by rw[H.g];exact List.not_mem_nil⟩
theorem Rel.ren {cx:Cx}{p r:Nat→Nat}{k n0:Nat}{s s2:St}{h:Array Obj}(H:StR p r k n0 s s2)(R:Rel cx s h):Rel (cx.ren p) s2 h:=by
 have hm:∀l,l<s2.n→s2.L l:=fun l hl=>H.L hl
 have hb:∀l o2,s2.get l=some o2→∃o,s.get (p l)=some o∧oR p s2.n k o o2=true∧ORep (cx.ren p) h s2.L l o2∧blk (cx.ren p) l o2=blk cx (p l) o:=fun l o2 hl=>by
  obtain ⟨-,-,o,h1,h2⟩:=H.o l o2 hl
  exact ⟨o,h1,h2,ORep.ren hm h2 (R.obj _ _ h1)⟩
 refine ⟨fun l hl=> ?_,fun l hl=> ?_,fun l o hl=> ?_,fun l l' o o' h1 h2 hne=> ?_,R.fzl,fun l cs z t hl oo hf=> ?_,fun l e hl oo hf=> ?_⟩
 ·cases hg:s2.get l with
  | none=>rfl
  | some o=>exact(hl (hm l (H.o l o hg).1)).elim
 ·rw[H.g] at hl;cases hl
 ·obtain⟨-,-,-,h1,-⟩:=hb l o hl;exact h1
 ·obtain⟨a,a1,-,-,a2⟩:=hb l o h1
  obtain ⟨b,b1,-,-,b2⟩:=hb l' o' h2
  rw [a2,b2]
  refine R.inj _ _ _ _ a1 b1 (fun e=>hne ?_)
  rw [←(H.o l o h1).2.1,e,(H.o l' o' h2).2.1]
 ·obtain⟨o,h1,h2,-⟩:=hb l _ hl
  cases o with
  | c cs' z' t'=>exact R.fzo _ _ _ _ h1 oo hf
  | t e=>simp[oR] at h2
  | x o=>simp[oR] at h2
 ·obtain⟨o,h1,h2,-⟩:=hb l _ hl
  cases o with
  | c cs' z' t'=>simp[oR] at h2
  | t e'=>
   simp only[oR,Nat.beq_eq] at h2
   subst h2
   exact R.fzt _ _ h1 oo hf
  | x o=>simp[oR] at h2
theorem Ext.ren {cxb cx:Cx}{p r:Nat→Nat}{k n0:Nat}{sb s s2:St}{hb h:Array Obj}(H:StR p r k n0 s s2)(hn:sb.n≤n0)(hp:∀l,l<n0→p l=l)(R:Rel cx s h)(E:Ext cxb sb hb cx s h):Ext cxb sb hb (cx.ren p) s2 h:=by
 have hpl:∀l,sb.L l→p l=l:=fun l hl=>hp l (Nat.lt_of_lt_of_le hl.1 hn)
 refine ⟨⟨fun l hl=>H.L (Nat.lt_of_lt_of_le hl.1 (Nat.le_trans hn H.n)),fun l hl=> ?_,fun l hl=> ?_,E.later.fz,E.later.cell,E.later.sz⟩,E.size,E.frame,fun b ⟨l,o2,hl,hbk⟩=> ?_,E.nfz⟩
 ·show cx.r (p l)=_;rw[hpl l hl];exact E.later.r l hl
 ·show cx.tk (p l)=_∨_<(cx.tk (p l)).e;rw[hpl l hl];exact E.later.tk l hl
 ·obtain⟨-,-,o,h1,h2⟩:=H.o l o2 hl
  have :=(ORep.ren (fun l hl=>H.L hl) h2 (R.obj _ _ h1)).2
  exact E.own b ⟨p l,o,h1,by rw[←this];exact hbk⟩
end Rf
namespace Rf
open Go
structure On where
 i :Nat
 am :Nat
 z :Bool
 x :I
structure Ent where
 c :Nat
 e :Sl
 s :St
 o :List (Nat×Nat×Nat)
def dIs (x:I)(t:Nat):Bool:=match x.d with
 | some d=>Nat.beq d t
 | none=>false
def dNe (x y:I):Bool:=match x.d with
 | some d=> !(dIs y d)
 | none=>true
def onsOf (ms:List Nat)(l:List (Nat×I)):List On:=l.map fun p=>⟨p.1,ms.getD p.1 0,Nat.beq p.2.k.cls 0&&p.2.ts.all fun t=>l.all fun q=> !(dIs q.2 t)||(ms.getD p.1 0).testBit q.1,p.2⟩
def okA (os:List On):Bool:=os.all fun o=>os.all fun o'=>(Nat.beq o.i o'.i||dNe o.x o'.x)&&(o.x.ts.all fun t=> !(dIs o'.x t)||(o.am.testBit o'.i||(!o.z&&o'.am.testBit o.i)))
def subM (m c:Nat):Bool:=Nat.beq (m &&& c) m
def doOn (call:Cl)(o:On)(n:Ent):Option Ent:=match wantedT n.e o.x.g with
 | some true=>match evKT call n.e n.s o.x.k with
  | some (v,s1)=>some ⟨n.c ||| 2^o.i,n.e.setD o.x.d v,s1,match Nat.beq s1.n n.s.n with
   | true=>n.o
   | false=>(o.i,n.s.n,s1.n-n.s.n)::n.o⟩
  | none=>none
 | some false=>some ⟨n.c ||| 2^o.i,n.e.setD o.x.d unV,n.s,n.o⟩
 | none=>none
def closeZ (call:Cl):List On→Ent→Option Ent
 | [],n=>some n
 | o::r,n=>match o.z&&(!(n.c.testBit o.i)&&subM o.am n.c) with
  | true=>match doOn call o n with
   | some n1=>closeZ call r n1
   | none=>none
  | false=>closeZ call r n
def zDone (os:List On)(n:Ent):Bool:=os.all fun o=> !o.z||(n.c.testBit o.i|| !(subM o.am n.c))
def stepN (call:Cl)(os:List On)(o:On)(n:Ent):Option Ent:=match doOn call o n with
 | some n1=>match closeZ call os n1 with
  | some n2=>match zDone os n2 with
   | true=>some n2
   | false=>none
  | none=>none
 | none=>none
def lookO (i:Nat):List (Nat×Nat×Nat)→Nat
 | []=>0
 | (j,a,_)::r=>match Nat.beq i j with
  | true=>a
  | false=>lookO i r
def pF (l:Nat):List (Nat×Nat×Nat)→Nat
 | []=>0
 | (a,b,c)::r=>match Nat.ble a l&&Nat.blt l (a+c) with
  | true=>b+(l-a)
  | false=>pF l r
def pOf (n0:Nat)(prs:List (Nat×Nat×Nat))(l:Nat):Nat:=match Nat.blt l n0 with
 | true=>l
 | false=>pF l prs
def envG (q:Nat→Bool):Nat→Bool
 | 0=>true
 | j+1=>q j&&envG q j
def sameE (p r:Nat→Nat)(n0:Nat)(x y:Ent):Bool:=
 stR p r 12 n0 x.s y.s&&(Nat.beq x.e.m y.e.m&&envG (fun t=>renN p y.s.n 12 (x.e.get t) (y.e.get t)) y.e.m)
def sameEnt (n0:Nat)(x y:Ent):Bool:=
 sameE (pOf n0 (y.o.map fun t=>(t.2.1,lookO t.1 x.o,t.2.2))) (pOf n0 (y.o.map fun t=>(lookO t.1 x.o,t.2.1,t.2.2))) n0 x y
def insE (n0:Nat)(x:Ent):List Ent→Option (List Ent)
 | []=>some [x]
 | y::l=>match Nat.beq x.c y.c with
  | true=>match sameEnt n0 x y with
   | true=>some (y::l)
   | false=>none
  | false=>match insE n0 x l with
   | some l'=>some (y::l')
   | none=>none
def goOs (call:Cl)(os:List On)(n0:Nat)(n:Ent):List On→List Ent→Option (List Ent)
 | [],acc=>some acc
 | o::r,acc=>match !o.z&&(!(n.c.testBit o.i)&&subM o.am n.c) with
  | true=>match stepN call os o n with
   | some n1=>match insE n0 n1 acc with
    | some acc=>goOs call os n0 n r acc
    | none=>none
   | none=>none
  | false=>goOs call os n0 n r acc
def goNs (call:Cl)(os:List On)(n0:Nat):List Ent→List Ent→Option (List Ent)
 | [],acc=>some acc
 | n::l,acc=>match goOs call os n0 n os acc with
  | some acc=>goNs call os n0 l acc
  | none=>none
def fullE (os:List On)(n:Ent):Bool:=os.all fun o=>n.c.testBit o.i
def goLay (call:Cl)(os:List On)(n0:Nat):Nat→List Ent→Option Ent
 | 0,l=>match l with
  | [n]=>match fullE os n with
   | true=>some n
   | false=>none
  | _=>none
 | k+1,l=>match l.any (fullE os) with
  | true=>none
  | false=>match goNs call os n0 l [] with
   | some l'=>goLay call os n0 k l'
   | none=>none
def anyA (call:Cl)(ops:List Oper)(is:List I)(e:Sl)(s:St):Option (Sl×St):=
 match backOk 0 ops&&okA (onsOf (masks ops []) (numbered 0 is)) with
 | true=>match closeZ call (onsOf (masks ops []) (numbered 0 is)) ⟨0,e,s,[]⟩ with
  | some n=>match zDone (onsOf (masks ops []) (numbered 0 is)) n with
   | true=>match goLay call (onsOf (masks ops []) (numbered 0 is)) s.n ((onsOf (masks ops []) (numbered 0 is)).filter fun o=> !o.z).length [n] with
    | some n=>some (n.e,n.s)
    | none=>none
   | false=>none
  | none=>none
 | false=>none
structure OsOk (ops:Array Oper) (is:List I) (os:List On):Prop where
 uni :∀o∈os,∀o'∈os,o.i=o'.i→o=o'
 all :∀k,k<ops.size→∃o∈os,o.i=k
 mem :∀o∈os,o.i<ops.size∧o.am=(masks ops.toList []).getD o.i 0∧is[o.i]? =some o.x
 dd :∀o∈os,∀o'∈os,o.i≠o'.i→∀d,o.x.d=some d→o'.x.d≠some d
 ts :∀o∈os,∀o'∈os,∀t∈o.x.ts,o'.x.d=some t→o.am.testBit o'.i=true∨(o.z=false∧o'.am.testBit o.i=true)
 zc :∀o∈os,o.z=true→o.x.k.cls=0
theorem dIs_iff {x:I}{t:Nat}:dIs x t=true↔x.d=some t:=by
 unfold dIs
 cases x.d with
 | none=>simp
 | some d=>simp[Nat.beq_eq]
theorem numbered_get {α:Type}:∀(l:List α)(i k:Nat)(x:α),l[k]? =some x→(i+k,x)∈numbered i l
 | [],i,k,x,h=>by simp at h
 | y::l,i,k,x,h=>by
  cases k with
  | zero=>simp at h;subst h;simp[numbered]
  | succ k=>
   have :=numbered_get l (i+1) k x (by simpa using h)
   rw [numbered,show i+(k+1)=i+1+k by omega]
   exact List.mem_cons_of_mem _ this
theorem osOk_of {ops : Array Oper} {is : List I} (hlen : is.length = ops.size) (h : okA (onsOf (masks ops.toList []) (numbered 0 is)) = true) : OsOk ops is (onsOf (masks ops.toList []) (numbered 0 is)) := by
  have hmem : ∀ o ∈ onsOf (masks ops.toList []) (numbered 0 is), ∃ p ∈ numbered 0 is, o.i = p.1 ∧ o.am = (masks ops.toList []).getD p.1 0 ∧ o.x = p.2 ∧ is[p.1]? = some p.2 ∧ (o.z = true → p.2.k.cls = 0) := fun o ho => by
    obtain ⟨p, hp, rfl⟩ := List.mem_map.1 ho
    refine ⟨p, hp, rfl, rfl, rfl, by simpa using (numbered_mem _ _ p.1 p.2 hp).2, fun hz => ?_⟩
    simp only [Bool.and_eq_true, Nat.beq_eq] at hz
    exact hz.1
  unfold okA at h
  rw [List.all_eq_true] at h
  have h' : ∀ o ∈ onsOf (masks ops.toList []) (numbered 0 is), ∀ o' ∈ onsOf (masks ops.toList []) (numbered 0 is), (o.i = o'.i ∨ dNe o.x o'.x = true) ∧ ∀ t ∈ o.x.ts, dIs o'.x t = true → o.am.testBit o'.i = true ∨ (o.z = false ∧ o'.am.testBit o.i = true) := fun o ho o' ho' => by
    have h1 := h o ho
    rw [List.all_eq_true] at h1
    have h2 := h1 o' ho'
    simp only [Bool.and_eq_true, Bool.or_eq_true, Nat.beq_eq, List.all_eq_true, Bool.not_eq_true'] at h2
    refine ⟨h2.1, fun t ht hd => ?_⟩
    rcases h2.2 t ht with h3 | h3
    · rw [hd] at h3; cases h3
    · exact h3
  refine ⟨fun o ho o' ho' he => ?_, fun k hk => ?_, fun o ho => ?_, fun o ho o' ho' hne d hd hd' => ?_, fun o ho o' ho' t ht hd => ?_, fun o ho hz => ?_⟩
  · obtain ⟨p, hp, rfl⟩ := List.mem_map.1 ho
    obtain ⟨q, hq, rfl⟩ := List.mem_map.1 ho'
    have he' : p.1 = q.1 := he
    have h1 := (numbered_mem _ _ p.1 p.2 hp).2
    have h2 := (numbered_mem _ _ q.1 q.2 hq).2
    rw [← he', h1] at h2
    have h3 : p.2 = q.2 := Option.some.inj h2
    have : p = q := Prod.ext he' h3
    rw [this]
  · have h1 : is[k]? = some (is[k]'(by omega)) := by simp [hk, hlen]
    have h2 := numbered_get is 0 k _ h1
    rw [Nat.zero_add] at h2
    exact ⟨_, List.mem_map.2 ⟨_, h2, rfl⟩, rfl⟩
  · obtain ⟨p, hp, h1, h2, h3, h4, -⟩ := hmem o ho
    refine ⟨?_, by rw [h1]; exact h2, by rw [h1, h3]; exact h4⟩
    rw [h1, ← hlen]; exact (List.getElem?_eq_some_iff.1 h4).1
  · rcases (h' o ho o' ho').1 with h1 | h1
    · exact hne h1
    · unfold dNe at h1
      rw [hd] at h1
      simp only [Bool.not_eq_true'] at h1
      rw [dIs_iff.2 hd'] at h1; cases h1
  · exact (h' o ho o' ho').2 t ht (dIs_iff.2 hd)
  · obtain ⟨p, hp, h1, h2, h3, h4, h5⟩ := hmem o ho
    rw [h3]; exact h5 hz
theorem bit_or {c i j:Nat}:(c ||| 2^i).testBit j=true↔c.testBit j=true∨i=j:=by
 rw [Nat.testBit_or,Bool.or_eq_true,Nat.testBit_two_pow,decide_eq_true_eq]
theorem subM_of {m c:Nat}(h:subM m c=true)(j:Nat)(hj:m.testBit j=true):c.testBit j=true:=by
 have e:m &&& c=m:=by simpa[subM,Nat.beq_eq] using h
 have :=congrArg (fun n=>n.testBit j) e
 simp only[Nat.testBit_and] at this
 rw [hj] at this
 simpa using this
theorem subM_to {m c:Nat}(h:∀j,m.testBit j=true→c.testBit j=true):subM m c=true:=by
 have :m &&& c=m:=by
  apply Nat.eq_of_testBit_eq
  intro j
  rw [Nat.testBit_and]
  cases hm:m.testBit j with
  | false=>rfl
  | true=>rw[h j hm];rfl
 simp [subM,Nat.beq_eq,this]
def Sl.l (e:Sl):List V:=(List.range e.m).map e.get
theorem SR.toL {e:Sl}{el:List V}(h:SR e el):e.l=el:=by
 apply List.ext_getElem
 ·simp[Sl.l,h.1]
 ·intro j h1 h2
  simp only[Sl.l,List.getElem_map,List.getElem_range]
  rw [h.2 j,List.getD,List.getElem?_eq_getElem h2]
  rfl
theorem setD_len (e:List V)(d:Option Nat)(v:V):(setD e d v).length=e.length:=by
 cases d<;>simp[setD]
theorem setD_get (e:List V)(d:Option Nat)(v:V)(t:Nat):(setD e d v).getD t unV=if d=some t∧t<e.length then v else e.getD t unV:=by
 cases d with
 | none=>simp[setD]
 | some d=>
  simp only[setD,Option.some.injEq,List.getD]
  by_cases hd:d=t
  ·subst hd
   by_cases hl:d<e.length
   ·rw[List.getElem?_set_self hl,if_pos ⟨rfl,hl⟩];rfl
   ·rw[if_neg (fun h=>hl h.2),List.getElem?_eq_none (by simp;omega),List.getElem?_eq_none (by omega)]
  ·rw[List.getElem?_set_ne hd,if_neg (fun h=>hd h.1)]
section
variable {gt:Nat→Option V} {P:Program}
def Vz (gt:Nat→Option V)(P:Program)(e:List V)(x:I):Prop:=
 ∃ v,((wanted e x.g=some false∧v=unV)∨(wanted e x.g=some true∧∀t,KRun gt P e t x.k v t))∧∀d,x.d=some d→d<e.length→e.getD d unV=v
structure Gd (gt:Nat→Option V) (P:Program) (os:List On) (n:Ent):Prop where
 sr :SR n.e n.e.l
 g1 :∀o∈os,n.c.testBit o.i=true→∀j,o.am.testBit j=true→n.c.testBit j=true
 g2 :∀o∈os,o.z=true→n.c.testBit o.i=true→Vz gt P n.e.l o.x
structure Dn1 (gt:Nat→Option V) (P:Program) (o:On) (n n1:Ent) (v:V):Prop where
 st :(wanted n.e.l o.x.g=some false∧v=unV∧n1.s=n.s)∨(wanted n.e.l o.x.g=some true∧KRun gt P n.e.l n.s o.x.k v n1.s)
 c :n1.c=n.c ||| 2^o.i
 sr :SR n1.e n1.e.l
 l :n1.e.l=setD n.e.l o.x.d v
theorem doOn_ok {call:Cl}(hc:ClOk gt P call){o:On}{n n1:Ent}(sr:SR n.e n.e.l)(h:doOn call o n=some n1):∃v,Dn1 gt P o n n1 v:=by
 unfold doOn at h
 split at h
 ·rename_i hw
  split at h
  ·rename_i v s1 hk
   cases h
   have h1:=sr.setD o.x.d v
   refine ⟨v, .inr ⟨by rw[←sr.wanted];exact hw,evK_ok hc (by rw[←sr.evK];exact hk)⟩,rfl, ?_,h1.toL⟩
   show SR (n.e.setD o.x.d v) (n.e.setD o.x.d v).l
   rw [h1.toL];exact h1
  ·cases h
 ·rename_i hw
  cases h
  have h1:=sr.setD o.x.d unV
  refine ⟨unV, .inl ⟨by rw[←sr.wanted];exact hw,rfl,rfl⟩,rfl, ?_,h1.toL⟩
  show SR (n.e.setD o.x.d unV) (n.e.setD o.x.d unV).l
  rw [h1.toL];exact h1
 ·cases h
variable {ops:Array Oper} {is:List I} {os:List On} {call:Cl}
theorem Gd.add (K:OsOk ops is os)(hc:ClOk gt P call){n n1:Ent}(G:Gd gt P os n){o:On}(ho:o∈os)(hn:n.c.testBit o.i=false)(hr:∀j,o.am.testBit j=true→n.c.testBit j=true){v:V}(D:Dn1 gt P o n n1 v):Gd gt P os n1:=by
 obtain ⟨hst,hcc,hsr,hl⟩:=D
 have hself:∀d,o.x.d=some d→d∉o.x.ts:=fun d hd ht=>by
  rcases K.ts o ho o ho d ht hd with h1|⟨-,h1⟩<;>(have:=hr _ h1;rw[hn] at this;cases this)
 refine ⟨hsr,fun o' ho' hb j hj=> ?_,fun o' ho' hz hb=> ?_⟩
 ·rw[hcc,bit_or] at hb
  rw [hcc,bit_or]
  rcases hb with hb|hb
  ·exact .inl (G.g1 o' ho' hb j hj)
  ·have:=K.uni o ho o' ho' hb
   subst this;exact .inl (hr j hj)
 ·rw[hcc,bit_or] at hb
  by_cases hb':n.c.testBit o'.i=true
  ·obtain⟨u,g1,g2⟩:=G.g2 o' ho' hz hb'
   have hne:o.i≠o'.i:=fun e=>by rw[←e,hn] at hb';cases hb'
   have ag:Ag o'.x.ts n.e.l n1.e.l:=by
    rw [hl]
    exact ag_setD (fun d hd ht=>by
     rcases K.ts o' ho' o ho d ht hd with h1|⟨h1,-⟩
     ·have:=G.g1 o' ho' hb' _ h1;rw[hn] at this;cases this
     ·rw[hz] at h1;cases h1)
   refine ⟨u, ?_,fun d hd hlt=> ?_⟩
   ·rcases g1 with⟨a,b⟩|⟨a,b⟩
    ·exact .inl ⟨by rw[←wanted_congr ag];exact a,b⟩
    ·exact .inr ⟨by rw[←wanted_congr ag];exact a,fun t=>krun_congr ag.k (b t)⟩
   ·rw[hl,setD_len] at hlt
    rw [hl,setD_get,if_neg (fun h=>K.dd o ho o' ho' hne d h.1 hd)]
    exact g2 d hd hlt
  ·have:=K.uni o ho o' ho' (hb.resolve_left hb')
   subst this
   have ag:Ag o.x.ts n.e.l n1.e.l:=by rw[hl];exact ag_setD hself
   refine ⟨v, ?_,fun d hd hlt=> ?_⟩
   ·rcases hst with⟨a,b,-⟩|⟨a,b⟩
    ·exact .inl ⟨by rw[←wanted_congr ag];exact a,b⟩
    ·exact .inr ⟨by rw[←wanted_congr ag];exact a,fun t=>krun_congr ag.k ((krun_cls0 (K.zc o ho hz) b).2 t)⟩
   ·rw[hl,setD_len] at hlt
    rw [hl,setD_get,if_pos ⟨hd,hlt⟩]
theorem closeZ_ind {C:Ent→Prop}(hstep:∀o∈os,∀n n1,C n→o.z=true→n.c.testBit o.i=false→(∀j,o.am.testBit j=true→n.c.testBit j=true)→doOn call o n=some n1→C n1):
  ∀ (l:List On)(n n2:Ent),(∀o∈l,o∈os)→closeZ call l n=some n2→C n→C n2
 | [],n,n2,_,h,hC=>by cases h;exact hC
 | o::r,n,n2,hl,h,hC=>by
  simp only[closeZ] at h
  split at h
  ·rename_i hcond
   simp only[Bool.and_eq_true,Bool.not_eq_true'] at hcond
   split at h
   ·rename_i n1 h1
    exact closeZ_ind hstep r n1 n2 (fun o ho=>hl o (List.mem_cons_of_mem _ ho)) h (hstep o (hl o (List.mem_cons_self ..)) n n1 hC hcond.1 hcond.2.1 (subM_of hcond.2.2) h1)
   ·cases h
  ·exact closeZ_ind hstep r n n2 (fun o ho=>hl o (List.mem_cons_of_mem _ ho)) h hC
theorem zDone_of {n:Ent}(h:zDone os n=true){o:On}(ho:o∈os)(hz:o.z=true)(hr:∀j,o.am.testBit j=true→n.c.testBit j=true):n.c.testBit o.i=true:=by
 unfold zDone at h
 rw [List.all_eq_true] at h
 have :=h o ho
 rw [hz,subM_to hr] at this
 simpa using this
def Pend (os:List On)(listed:Array Bool)(c:Nat)(t:Nat):Prop:=∃o∈os,o.z=true∧c.testBit o.i=true∧listed.getD o.i false=false∧o.x.d=some t
structure Rl (gt:Nat→Option V) (cxb:Cx) (sb:St) (wb:World) (os:List On) (listed:Array Bool) (n:Ent) (cx:Cx) (rl:List V) (act:Act) (w:World):Prop where
 E :ERep gt cx w.heap n.s.L rl act.tmps
 hd :act.defers=[]
 R :Rel cx n.s w.heap
 X :Ext cxb sb wb.heap cx n.s w.heap
 q :Qt wb w
 le :∀j,listed.getD j false=true→n.c.testBit j=true
 nz :∀o∈os,o.z=false→n.c.testBit o.i=true→listed.getD o.i false=true
 len :rl.length=n.e.l.length
 env :∀t,¬Pend os listed n.c t→rl.getD t unV=n.e.l.getD t unV
variable {cxb:Cx} {sb:St} {wb:World} {listed:Array Bool}
theorem Rl.addZ (K:OsOk ops is os){n n1:Ent}{cx:Cx}{rl:List V}{act:Act}{w:World}(H:Rl gt cxb sb wb os listed n cx rl act w){o:On}(ho:o∈os)(hz:o.z=true)(hn:n.c.testBit o.i=false){v:V}(D:Dn1 gt P o n n1 v):Rl gt cxb sb wb os listed n1 cx rl act w:=by
 obtain ⟨hst,hcc,hsr,hl⟩:=D
 have hs:n1.s=n.s:=by
  rcases hst with⟨-,-,h⟩|⟨-,h⟩
  ·exact h
  ·exact(krun_cls0 (K.zc o ho hz) h).1
 refine ⟨by rw[hs];exact H.E,H.hd,by rw[hs];exact H.R,by rw[hs];exact H.X,H.q,fun j hj=> ?_,fun o' ho' hz' hb=> ?_,by rw[hl,setD_len];exact H.len,fun t ht=> ?_⟩
 ·rw[hcc,bit_or];exact .inl (H.le j hj)
 ·rw[hcc,bit_or] at hb
  rcases hb with hb|hb
  ·exact H.nz o' ho' hz' hb
  ·have:=K.uni o ho o' ho' hb
   subst this;rw[hz] at hz';cases hz'
 ·have hol:listed.getD o.i false=false:=by
   cases hb:listed.getD o.i false with
   | false=>rfl
   | true=>have:=H.le _ hb;rw[hn] at this;cases this
  rw [hl,setD_get,if_neg (fun h=>ht ⟨o,ho,hz,by rw[hcc,bit_or];exact .inr rfl,hol,h.1⟩)]
  refine H.env t (fun⟨o',ho',a,b,c,d⟩=>ht ⟨o',ho',a,by rw[hcc,bit_or];exact .inl b,c,d⟩)
theorem listed_set (hsz:listed.size=ops.size){k:Nat}(hk:k<ops.size)(j:Nat):(listed.setIfInBounds k true).getD j false=true↔j=k∨listed.getD j false=true:=by
 by_cases hj:k=j
 ·subst hj
  have :(listed.setIfInBounds k true).getD k false=true:=by simp[hsz,hk]
  simp [this]
 ·rw[getD_set_ne false hj]
  exact ⟨fun h=> .inr h,fun h=>h.resolve_left (fun e=>hj e.symm)⟩
theorem Rl.fire (K:OsOk ops is os)(hsz:listed.size=ops.size){n n1:Ent}{cx cx':Cx}{rl:List V}{act act':Act}{w w':World}(H:Rl gt cxb sb wb os listed n cx rl act w){o:On}(ho:o∈os)(hol:listed.getD o.i false=false){v:V}
  (hcc:n1.c=n.c ||| 2^o.i) (hl:n1.e.l.length=n.e.l.length) (hl1:∀d,o.x.d=some d→d<n.e.l.length→n1.e.l.getD d unV=v) (hl2:∀t,o.x.d≠some t→n1.e.l.getD t unV=n.e.l.getD t unV)
  (E':ERep gt cx' w'.heap n1.s.L (setD rl o.x.d v) act'.tmps) (hd':act'.defers=[]) (R':Rel cx' n1.s w'.heap) (X':Ext cxb sb wb.heap cx' n1.s w'.heap) (q':Qt wb w'):
  Rl gt cxb sb wb os (listed.setIfInBounds o.i true) n1 cx' (setD rl o.x.d v) act' w':=by
 have hset:=listed_set hsz (K.mem o ho).1
 refine ⟨E',hd',R',X',q',fun j hj=> ?_,fun o' ho' hz' hb=> ?_,by rw[setD_len,hl];exact H.len,fun t ht=> ?_⟩
 ·rw[hcc,bit_or]
  rcases (hset j).1 hj with h|h
  ·exact .inr h.symm
  ·exact .inl (H.le j h)
 ·rw[hset]
  rw [hcc,bit_or] at hb
  rcases hb with hb|hb
  ·exact .inr (H.nz o' ho' hz' hb)
  ·exact .inl hb.symm
 ·rw[setD_get]
  by_cases hd:o.x.d=some t
  ·by_cases hlt:t<rl.length
   ·rw[if_pos ⟨hd,hlt⟩]
    exact (hl1 t hd (by rw[←H.len];exact hlt)).symm
   ·rw[if_neg (fun h=>hlt h.2)]
    simp only[List.getD]
    rw [List.getElem?_eq_none (by omega),List.getElem?_eq_none (by rw[hl,←H.len];omega)]
  ·rw[if_neg (fun h=>hd h.1),hl2 t hd]
   refine H.env t (fun⟨o',ho',a,b,c,d⟩=>ht ⟨o',ho',a,by rw[hcc,bit_or];exact .inl b, ?_,d⟩)
   have hne:o'.i≠o.i:=fun e=>by
    have :=K.uni o ho o' ho' e.symm
    subst this;exact hd d
   cases hb:(listed.setIfInBounds o.i true).getD o'.i false with
   | false=>rfl
   | true=>
    rcases (hset o'.i).1 hb with h|h
    ·exact(hne h).elim
    ·rw[c] at h;cases h
theorem pOf_old (n0:Nat)(prs:List (Nat×Nat×Nat))(l:Nat)(h:l<n0):pOf n0 prs l=l:=by
 have :Nat.blt l n0=true:=by simpa[Nat.blt_eq] using h
 simp only[pOf,this]
theorem envG_of {q:Nat→Bool}:∀(m:Nat),envG q m=true→∀t,t<m→q t=true
 | 0,_,t,h=>by omega
 | m+1,h,t,ht=>by
  simp only[envG,Bool.and_eq_true] at h
  rcases Nat.lt_or_ge t m with h1|h1
  ·exact envG_of m h.2 t h1
  ·have:t=m:=by omega
   subst this;exact h.1
open Classical in
theorem Rl.ren (hG:GRep gt cxb wb.heap sb.L){n y:Ent}(Gn:SR n.e n.e.l)(Gy:SR y.e y.e.l){cx:Cx}{rl:List V}{act:Act}{w:World}(H:Rl gt cxb sb wb os listed n cx rl act w)(hcc:n.c=y.c)(hs:sameEnt sb.n n y=true):∃cx' rl',Rl gt cxb sb wb os listed y cx' rl' act w:=by
 unfold sameEnt sameE at hs
 generalize hp:pOf sb.n (y.o.map fun t=>(t.2.1,lookO t.1 n.o,t.2.2))=p at hs
 have hpo:∀l,l<sb.n→p l=l:=fun l hl=>by rw[←hp];exact pOf_old _ _ _ hl
 simp only[Bool.and_eq_true,Nat.beq_eq] at hs
 obtain ⟨h1,h2,h3⟩:=hs
 have S:=stR_iff h1
 have X':=H.X.ren S (Nat.le_refl _) hpo H.R
 have hlen:y.e.l.length=n.e.l.length:=by simp[Sl.l,h2]
 have hm:∀l,l<y.s.n→y.s.L l:=fun l hl=>S.L hl
 refine ⟨cx.ren p,(List.range y.e.m).map (fun t=>if Pend os listed y.c t then .bad else y.e.l.getD t unV),⟨hG.later X'.later, ?_,fun t=> ?_⟩,H.hd,H.R.ren S,X',H.q,fun j hj=>by rw[←hcc];exact H.le j hj,fun o ho hz hb=>H.nz o ho hz (by rw[hcc];exact hb),by simp[Sl.l],fun t ht=> ?_⟩
 ·have:=H.E.len
  rw [List.length_map,List.length_range,←h2,←this,H.len]
  simp [Sl.l]
 ·by_cases ht:t<y.e.m
  ·have e1:((List.range y.e.m).map (fun t=>if Pend os listed y.c t then V.bad else y.e.l.getD t unV)).getD t unV=if Pend os listed y.c t then .bad else y.e.l.getD t unV:=by
    simp only[List.getD,List.getElem?_map,List.getElem?_range ht,Option.map_some,Option.getD_some]
   rw [e1]
   by_cases hpe:Pend os listed y.c t
   ·rw[if_pos hpe];exact .bad _
   ·rw[if_neg hpe]
    have h4:=H.E.rep t
    rw [H.env t (by rw[hcc];exact hpe),←Gn.2 t] at h4
    rw [←Gy.2 t]
    exact h4.ren hm 12 _ _ _ (envG_of _ h3 t ht)
  ·have e1:((List.range y.e.m).map (fun t=>if Pend os listed y.c t then V.bad else y.e.l.getD t unV)).getD t unV=unV:=by
    simp only[List.getD];rw[List.getElem?_eq_none (by simp;omega)];rfl
   rw [e1]
   have h4:=H.E.rep t
   have e2:rl.getD t unV=unV:=by
    simp only[List.getD]
    rw [List.getElem?_eq_none (by rw[H.len,←hlen];simp[Sl.l];omega)];rfl
   rw [e2] at h4
   exact h4.ren (m:=0) (fun l hl=>by omega) 12 unV unV _ rfl
 ·by_cases hlt:t<y.e.m
  ·simp only[List.getD,List.getElem?_map,List.getElem?_range hlt,Option.map_some,Option.getD_some]
   rw [if_neg ht]
  ·simp only[List.getD]
   rw [List.getElem?_eq_none (by simp;omega),List.getElem?_eq_none (by simp[Sl.l];omega)]
def Nxt (call:Cl)(os:List On)(n:Ent)(o:On)(y:Ent):Prop:=o.z=false∧n.c.testBit o.i=false∧subM o.am n.c=true∧stepN call os o n=some y
theorem insE_ok {n0:Nat}{x:Ent}:∀(l l':List Ent),insE n0 x l=some l'→(∀y∈l,y∈l')∧(∀y∈l',y∈l∨y=x)∧∃y∈l',y=x∨(x.c=y.c∧sameEnt n0 x y=true)
 | [],l',h=>by
  cases h
  exact ⟨fun y hy=>by simp at hy,fun y hy=> .inr (by simpa using hy),x,by simp, .inl rfl⟩
 | z::l,l',h=>by
  simp only[insE] at h
  split at h
  ·rename_i hc
   split at h
   ·rename_i hs
    cases h
    exact ⟨fun y hy=>hy,fun y hy=> .inl hy,z,by simp, .inr ⟨Nat.eq_of_beq_eq_true hc,hs⟩⟩
   ·cases h
  ·split at h
   ·rename_i l2 h2
    cases h
    obtain ⟨a,b,y,hy,c⟩:=insE_ok l l2 h2
    refine ⟨fun y hy=> ?_,fun y hy=> ?_,y,List.mem_cons_of_mem _ hy,c⟩
    ·rcases List.mem_cons.1 hy with h|h
     ·rw[h];exact List.mem_cons_self ..
     ·exact List.mem_cons_of_mem _ (a y h)
    ·rcases List.mem_cons.1 hy with h|h
     ·rw[h];exact .inl (List.mem_cons_self ..)
     ·exact(b y h).imp (fun h=>List.mem_cons_of_mem _ h) id
   ·cases h
theorem goOs_ok {n0:Nat}{n:Ent}:∀(l:List On)(acc acc':List Ent),goOs call os n0 n l acc=some acc'→
  (∀y∈acc,y∈acc')∧(∀y∈acc',y∈acc∨∃o∈l,Nxt call os n o y)∧∀o∈l,o.z=false→n.c.testBit o.i=false→subM o.am n.c=true→∃n1,stepN call os o n=some n1∧∃y∈acc',y=n1∨(n1.c=y.c∧sameEnt n0 n1 y=true)
 | [],acc,acc',h=>by cases h;exact⟨fun _ h=>h,fun _ h=> .inl h,fun o ho=>by simp at ho⟩
 | o::r,acc,acc',h=>by
  simp only[goOs] at h
  split at h
  ·rename_i hcond
   simp only[Bool.and_eq_true,Bool.not_eq_true'] at hcond
   split at h
   ·rename_i n1 h1
    split at h
    ·rename_i acc1 h2
     obtain ⟨a1,a2,y,hy,a3⟩:=insE_ok _ _ h2
     obtain ⟨b1,b2,b3⟩:=goOs_ok r _ _ h
     refine ⟨fun y hy=>b1 _ (a1 _ hy),fun z hz=> ?_,fun o' ho' g1 g2 g3=> ?_⟩
     ·rcases b2 z hz with h|⟨o',ho',h⟩
      ·rcases a2 z h with h|h
       ·exact .inl h
       ·subst h;exact .inr ⟨o,List.mem_cons_self ..,hcond.1,hcond.2.1,hcond.2.2,h1⟩
      ·exact .inr ⟨o',List.mem_cons_of_mem _ ho',h⟩
     ·rcases List.mem_cons.1 ho' with e|e
      ·subst e;exact⟨n1,h1,y,b1 _ hy,a3⟩
      ·exact b3 o' e g1 g2 g3
    ·cases h
   ·cases h
  ·rename_i hcond
   obtain ⟨b1,b2,b3⟩:=goOs_ok r _ _ h
   refine ⟨b1,fun z hz=>(b2 z hz).imp id (fun⟨o',ho',h⟩=>⟨o',List.mem_cons_of_mem _ ho',h⟩),fun o' ho' g1 g2 g3=> ?_⟩
   rcases List.mem_cons.1 ho' with e|e
   ·subst e;simp[g1,g2,g3] at hcond
   ·exact b3 o' e g1 g2 g3
theorem goNs_ok {n0:Nat}:∀(l acc acc':List Ent),goNs call os n0 l acc=some acc'→
  (∀y∈acc,y∈acc')∧(∀y∈acc',y∈acc∨∃n∈l,∃o∈os,Nxt call os n o y)∧∀n∈l,∀o∈os,o.z=false→n.c.testBit o.i=false→subM o.am n.c=true→∃n1,stepN call os o n=some n1∧∃y∈acc',y=n1∨(n1.c=y.c∧sameEnt n0 n1 y=true)
 | [],acc,acc',h=>by cases h;exact⟨fun _ h=>h,fun _ h=> .inl h,fun n hn=>by simp at hn⟩
 | n::l,acc,acc',h=>by
  simp only[goNs] at h
  split at h
  ·rename_i acc1 h1
   obtain ⟨a1,a2,a3⟩:=goOs_ok _ _ _ h1
   obtain ⟨b1,b2,b3⟩:=goNs_ok l _ _ h
   refine ⟨fun y hy=>b1 _ (a1 _ hy),fun z hz=> ?_,fun n' hn' o ho g1 g2 g3=> ?_⟩
   ·rcases b2 z hz with h|⟨n',hn',h⟩
    ·rcases a2 z h with h|h
     ·exact .inl h
     ·exact .inr ⟨n,List.mem_cons_self ..,h⟩
    ·exact .inr ⟨n',List.mem_cons_of_mem _ hn',h⟩
   ·rcases List.mem_cons.1 hn' with e|e
    ·subst e
     obtain ⟨n1,c1,y,hy,c2⟩:=a3 o ho g1 g2 g3
     exact ⟨n1,c1,y,b1 _ hy,c2⟩
    ·exact b3 n' e o ho g1 g2 g3
  ·cases h
theorem stepN_ok (K:OsOk ops is os)(hc:ClOk gt P call){n y:Ent}(G:Gd gt P os n){o:On}(ho:o∈os)(hn:n.c.testBit o.i=false)(hr:subM o.am n.c=true)(h:stepN call os o n=some y):Gd gt P os y∧zDone os y=true:=by
 unfold stepN at h
 split at h
 ·rename_i n1 h1
  obtain ⟨v,D⟩:=doOn_ok hc G.sr h1
  have G1:=G.add K hc ho hn (subM_of hr) D
  split at h
  ·rename_i n2 h2
   split at h
   ·rename_i hz
    cases h
    refine ⟨closeZ_ind (C:=Gd gt P os) (fun o ho m m1 Gm hz hb hs hd=> ?_) os n1 _ (fun o h=>h) h2 G1,hz⟩
    obtain ⟨u,Du⟩:=doOn_ok hc Gm.sr hd
    exact Gm.add K hc ho hb hs Du
   ·cases h
  ·cases h
 ·cases h
end
section
variable {gt:Nat→Option V} {P:Program} {call:Cl} {ops:Array Oper} {is:List I} {os:List On} {cxb:Cx} {sb:St} {wb:World}
theorem ready_anc {listed:Array Bool}(hcl:∀k,listed.getD k false=true→∀j,((masks ops.toList []).getD k 0).testBit j=true→listed.getD j false=true){k:Nat}(hk:k∈Region.ready .any ops listed):∀j,((masks ops.toList []).getD k 0).testBit j=true→listed.getD j false=true:=fun j hj=>by
 obtain ⟨hun,o,ho,hedges⟩:=mem_ready.1 hk
 obtain ⟨o',ho',ed,he,hb,hj'⟩:=mask_bit hj
 have :o'=o:=by
  have h1:ops.toList[k]? =ops[k]? :=by simp
  rw [h1,ho] at ho';cases ho';rfl
 subst this
 have hon:=hedges ed (by simpa using he) hb
 rcases hj' with rfl|hj'
 ·exact hon
 ·exact hcl _ hon j hj'
theorem some_ready (hback:backOk 0 ops.toList=true){listed:Array Bool}(hsz:listed.size=ops.size){fuel:Nat}(hl:left listed (List.range ops.size)=fuel+1):Region.ready .any ops listed≠ []:=by
 intro hn
 have hpos:0<left listed (List.range ops.size):=by omega
 obtain ⟨k0,hk0,hk1⟩:=List.countP_pos_iff.1 hpos
 have hmin:∃k,k<ops.size∧listed.getD k true=false∧∀j,j<k→listed.getD j true=true:=by
  have :∀n,∀k,k≤n→k<ops.size→listed.getD k true=false→∃k,k<ops.size∧listed.getD k true=false∧∀j,j<k→listed.getD j true=true:=by
   intro n
   induction n with
   | zero=>intro k hk h1 h2;exact⟨k,h1,h2,fun j hj=>by omega⟩
   | succ n ihn=>
    intro k hk h1 h2
    by_cases h:∃j,j<k∧listed.getD j true=false
    ·obtain⟨j,hj,hjf⟩:=h;exact ihn j (by omega) (by omega) hjf
    ·exact⟨k,h1,h2,fun j hj=>by
      cases hb:listed.getD j true with
      | true=>rfl
      | false=>exact(h ⟨j,hj,hb⟩).elim⟩
  exact this k0 k0 (Nat.le_refl _) (List.mem_range.1 hk0) (by simpa using hk1)
 obtain ⟨k,hks,hkf,hmn⟩:=hmin
 have :k∈Region.ready .any ops listed:=by
  refine mem_ready.2 ⟨hkf,ops[k],by simp[hks],fun ed he hb=> ?_⟩
  have hon:=backOk_get ops.toList 0 hback k ops[k] (by simp[hks]) ed (by simpa using he) hb
  rw [getD_bool (by rw[hsz];omega) false true]
  exact hmn _ (by omega)
 rw [hn] at this;cases this
theorem any_wpA {wf:Nat→Bool}(K:OsOk ops is os)(his:cOps gt P wf ops 0 ops.toList=some is)(hback:backOk 0 ops.toList=true)(hc:ClOk gt P call)(hG:GRep gt cxb wb.heap sb.L){Q:Exit→Act→World→Prop}{fin:Ent}
  (hQ:∀listed cx rl act w,(∀k,k<ops.size→listed.getD k false=true)→Gd gt P os fin→Rl gt cxb sb wb os listed fin cx rl act w→Q .normal act w):
  ∀ (fuel k:Nat)(l:List Ent)(n:Ent)(listed:Array Bool)(cx:Cx)(rl:List V)(act:Act)(w:World),left listed (List.range ops.size)=fuel→listed.size=ops.size→
  (∀k,listed.getD k false=true→∀j,((masks ops.toList []).getD k 0).testBit j=true→listed.getD j false=true)→n∈l→(∀y∈l,Gd gt P os y∧zDone os y=true)→goLay call os sb.n k l=some fin→
  Rl gt cxb sb wb os listed n cx rl act w→wpAny P .any ops Q fuel listed act w:=by
 intro fuel
 induction fuel with
 | zero=>
  intro k l n listed cx rl act w hl hsz hcl hn hg hgo H
  have hall:∀k,k<ops.size→listed.getD k false=true:=fun k hk=>by
   have :=List.countP_eq_zero.1 hl k (List.mem_range.2 hk)
   rw [getD_bool (by rw[hsz];exact hk) false true]
   simpa using this
  refine ⟨?_, ?_⟩
  ·rw[List.eq_nil_iff_forall_not_mem]
   intro j hj
   obtain ⟨h1,o,ho,-⟩:=mem_ready.1 hj
   have hj':=(Array.getElem?_eq_some_iff.1 ho).1
   have :=hall j hj'
   rw [getD_bool (by rw[hsz];exact hj') false true,h1] at this;cases this
  ·cases k with
   | zero=>
    simp only[goLay] at hgo
    split at hgo
    ·split at hgo
     ·cases hgo
      have :n=fin:=by simpa using hn
      subst this
      exact hQ listed cx rl act w hall (hg n hn).1 H
     ·cases hgo
    ·cases hgo
   | succ k=>
    exfalso
    simp only[goLay] at hgo
    split at hgo
    ·cases hgo
    ·rename_i hany
     have :l.any (fullE os)=true:=by
      rw [List.any_eq_true]
      refine ⟨n,hn, ?_⟩
      unfold fullE
      rw [List.all_eq_true]
      exact fun o ho=>H.le _ (hall _ (K.mem o ho).1)
     rw [this] at hany;cases hany
 | succ fuel ih=>
  intro k l n listed cx rl act w hl hsz hcl hn hg hgo H
  refine ⟨fun h=>(some_ready hback hsz hl h).elim,fun i hi=> ?_⟩
  have hanc:=ready_anc hcl hi
  obtain ⟨hun,o,ho,hedges⟩:=mem_ready.1 hi
  have his':i<ops.size:=(Array.getElem?_eq_some_iff.1 ho).1
  have hleft:left (listed.setIfInBounds i true) (List.range ops.size)=fuel:=by
   have :=(left_set hun (List.range ops.size) List.nodup_range).1 (List.mem_range.2 his')
   omega
  have hsz':(listed.setIfInBounds i true).size=ops.size:=by simp[hsz]
  have hclosed:∀k',(listed.setIfInBounds i true).getD k' false=true→∀j,((masks ops.toList []).getD k' 0).testBit j=true→(listed.setIfInBounds i true).getD j false=true:=fun k' hkd j hj=>by
   rw [listed_set hsz his'] at hkd ⊢
   rcases hkd with rfl|hkd
   ·exact .inr (hanc j hj)
   ·exact .inr (hcl k' hkd j hj)
  obtain ⟨on,hon,rfl⟩:=K.all i his'
  obtain ⟨-,hmk,hisx⟩:=K.mem on hon
  obtain ⟨y,hy1,hy2⟩:∃y,is[on.i]? =some y∧cI gt P (wf (0+on.i)) ops o=some y:=(cops_get _ _ _ his).2 on.i o (by simpa using ho)
  have hy:y=on.x:=by rw[hisx] at hy1;cases hy1;rfl
  subst hy
  obtain ⟨hdst,hkk⟩:=cI_dk hy2
  have hol:listed.getD on.i false=false:=by rw[getD_bool (by rw[hsz];exact his') false true];exact hun
  have hanc':∀j,on.am.testBit j=true→listed.getD j false=true:=fun j hj=>hanc j (by rw[←hmk];exact hj)
  have hancC:∀j,on.am.testBit j=true→n.c.testBit j=true:=fun j hj=>H.le j (hanc' j hj)
  obtain ⟨Gn,hzn⟩:=hg n hn
  have ag:Ag on.x.ts n.e.l rl:=fun t ht=>by
   refine (H.env t (fun⟨o',ho',hz',hb',hl',hd'⟩=> ?_)).symm
   rcases K.ts on hon o' ho' t ht hd' with h1|⟨h0,h1⟩
   ·have:=hanc' _ h1;rw[hl'] at this;cases this
   ·have h2:=Gn.g1 o' ho' hb' _ h1
    have :=H.nz on hon h0 h2
    rw [hol] at this;cases this
  have fire:∀(v:V)(s1:St),((wanted n.e.l on.x.g=some false∧v=unV∧s1=n.s)∨(wanted n.e.l on.x.g=some true∧KRun gt P n.e.l n.s on.x.k v s1))→
    (∀cx' act' w',ERep gt cx' w'.heap s1.L (setD rl on.x.d v) act'.tmps→act'.defers=[]→Rel cx' s1 w'.heap→Ext cxb sb wb.heap cx' s1 w'.heap→Qt wb w'→wpAny P .any ops Q fuel (listed.setIfInBounds on.i true) act' w')→
    wpOp P ops Q on.i (wpAny P .any ops Q fuel (listed.setIfInBounds on.i true)) act w:=by
   intro v s1 hst hnext
   unfold wpOp
   simp only[ho]
   rcases hst with⟨hw,rfl,rfl⟩|⟨hw,hkr⟩
   ·rw[wanted_congr ag] at hw
    rw [wanted_run H.E hy2 hw]
    simp only[Bool.false_eq_true,if_false]
    have hE:=H.E.setD (VRep.un _ _ _) o.dst
    rw [←hdst] at hE ⊢
    exact hnext cx _ w hE (by rw[put_defers];exact H.hd) H.R H.X H.q
   ·rw[wanted_congr ag] at hw
    rw [wanted_run H.E hy2 hw]
    simp only[if_true]
    left
    have hkr':=krun_congr ag.k hkr
    rw [hkk] at hkr'
    exact oper_run H.E H.hd H.R hkr' (fun x w' cx' e1 e2 e3 e4=>hnext cx' _ w' (by rw[hdst];exact e1) (by rw[put_defers];exact H.hd) e2 (H.X.trans e3) (H.q.trans e4))
  by_cases hb:n.c.testBit on.i=true
  ·
   have hz:on.z=true:=by
    cases hz:on.z with
    | true=>rfl
    | false=>have:=H.nz on hon hz hb;rw[hol] at this;cases this
   obtain ⟨v,hst,hv⟩:=Gn.g2 on hon hz hb
   have hcc:n.c=n.c ||| 2^on.i:=by
    apply Nat.eq_of_testBit_eq
    intro j
    cases h1:(n.c ||| 2^on.i).testBit j with
    | true=>
     rcases bit_or.1 h1 with h|h
     ·exact h
     ·rw[←h];exact hb
    | false=>
     cases h2:n.c.testBit j with
     | false=>rfl
     | true=>rw[bit_or.2 (.inl h2)] at h1;cases h1
   refine fire v n.s (hst.imp (fun h=>⟨h.1,h.2,rfl⟩) (fun h=>⟨h.1,h.2 _⟩)) (fun cx' act' w' e1 e2 e3 e4 e5=> ?_)
   exact ih k l n _ cx' _ act' w' hleft hsz' hclosed hn hg hgo (H.fire K hsz hon hol hcc rfl hv (fun t _=>rfl) e1 e2 e3 e4 e5)
  ·have hb:n.c.testBit on.i=false:=by simpa using hb
   have hz:on.z=false:=by
    cases hz:on.z with
    | false=>rfl
    | true=>have:=zDone_of hzn hon hz hancC;rw[hb] at this;cases this
   cases k with
   | zero=>
    exfalso
    simp only[goLay] at hgo
    split at hgo
    ·split at hgo
     ·rename_i m hfull
      cases hgo
      have :n=fin:=by simpa using hn
      subst this
      unfold fullE at hfull
      rw [List.all_eq_true] at hfull
      have :=hfull on hon
      rw [hb] at this;cases this
     ·cases hgo
    ·cases hgo
   | succ k=>
    simp only[goLay] at hgo
    split at hgo
    ·cases hgo
    split at hgo
    case h_2=>cases hgo
    rename_i hany l' hl'
    obtain ⟨-,a2,a3⟩:=goNs_ok _ _ _ hl'
    have hg':∀y∈l',Gd gt P os y∧zDone os y=true:=fun y hy=>by
     rcases a2 y hy with h|⟨m,hm,o',ho',h1,h2,h3,h4⟩
     ·simp at h
     ·exact stepN_ok K hc (hg m hm).1 ho' h2 h3 h4
    obtain ⟨n2,hst2,z,hz',hzz⟩:=a3 n hn on hon hz hb (subM_to hancC)
    have G2:=(stepN_ok K hc Gn hon hb (subM_to hancC) hst2).1
    unfold stepN at hst2
    split at hst2
    case h_2=>cases hst2
    rename_i n1 h1
    obtain ⟨v,D⟩:=doOn_ok hc Gn.sr h1
    have G1:=Gn.add K hc hon hb hancC D
    split at hst2
    case h_2=>cases hst2
    rename_i n2' h2
    split at hst2
    case h_2=>cases hst2
    cases hst2
    refine fire v n1.s D.st (fun cx' act' w' e1 e2 e3 e4 e5=> ?_)
    have H1:Rl gt cxb sb wb os (listed.setIfInBounds on.i true) n1 cx' (setD rl on.x.d v) act' w':=H.fire K hsz hon hol D.c (by rw[D.l,setD_len]) (fun d hd hlt=>by rw[D.l,setD_get,if_pos ⟨hd,hlt⟩]) (fun t ht=>by rw[D.l,setD_get,if_neg (fun h=>ht h.1)]) e1 e2 e3 e4 e5
    have H2:=(closeZ_ind (os:=os) (C:=fun m=>Gd gt P os m∧Rl gt cxb sb wb os (listed.setIfInBounds on.i true) m cx' (setD rl on.x.d v) act' w') (fun o' ho' m m1 Gm hz' hb' hs' hd'=>by
     obtain ⟨u,Du⟩:=doOn_ok hc Gm.1.sr hd'
     exact ⟨Gm.1.add K hc ho' hb' hs' Du,Gm.2.addZ K ho' hz' hb' Du⟩) os n1 n2 (fun o h=>h) h2 ⟨G1,H1⟩).2
    rcases hzz with rfl|⟨hcc,hs⟩
    ·exact ih k l' z _ cx' _ act' w' hleft hsz' hclosed hz' hg' hgo H2
    ·obtain⟨cx2,rl2,H3⟩:=H2.ren hG G2.sr (hg' z hz').1.sr hcc hs
     exact ih k l' z _ cx2 rl2 act' w' hleft hsz' hclosed hz' hg' hgo H3
theorem goLay_gd (K:OsOk ops is os)(hc:ClOk gt P call){n0:Nat}:∀(k:Nat)(l:List Ent)(fin:Ent),(∀y∈l,Gd gt P os y∧zDone os y=true)→goLay call os n0 k l=some fin→Gd gt P os fin
 | 0,l,fin,hg,h=>by
  simp only[goLay] at h
  split at h
  ·split at h
   ·cases h;exact(hg _ (by simp)).1
   ·cases h
  ·cases h
 | k+1,l,fin,hg,h=>by
  simp only[goLay] at h
  split at h
  ·cases h
  split at h
  case h_2=>cases h
  rename_i l' hl'
  obtain ⟨-,a2,-⟩:=goNs_ok _ _ _ hl'
  refine goLay_gd K hc k l' fin (fun y hy=> ?_) h
  rcases a2 y hy with h|⟨m,hm,o',ho',h1,h2,h3,h4⟩
  ·simp at h
  ·exact stepN_ok K hc (hg m hm).1 ho' h2 h3 h4
theorem anyA_any {wf:Nat→Bool}{e:Sl}{el:List V}{s:St}{e':Sl}{s':St}(hm:P.follows .mixedOrders=true)(his:cOps gt P wf ops 0 ops.toList=some is)(hc:ClOk gt P call)(hsr:SR e el)(h:anyA call ops.toList is e s=some (e',s'))(cx:Cx)(w:World)(act:Act)(E:ERep gt cx w.heap s.L el act.tmps)(hd:act.defers=[])(R:Rel cx s w.heap):
  ∃ el',SR e' el'∧∀t,wpOps P ops (fun ex a' w'=>∃x e2 s2,exitOf x=ex∧(x= .nrm∧e2=el'∧s2=s')∧After gt cx s w e2 s2 a' w') (Region.schedule (P.follows .mixedOrders) ops t) act {w with drawn:=w.drawn+1}:=by
 unfold anyA at h
 generalize hos:onsOf (masks ops.toList []) (numbered 0 is)=os at h
 split at h
 case h_2=>cases h
 rename_i hok
 simp only[Bool.and_eq_true] at hok
 obtain ⟨hback,hokA⟩:=hok
 split at h
 case h_2=>cases h
 rename_i n hn
 split at h
 case h_2=>cases h
 rename_i hz
 split at h
 case h_2=>cases h
 rename_i fin hgo
 cases h
 have hlen:is.length=ops.size:=by simpa using(cops_get _ _ _ his).1
 have K:OsOk ops is os:=by rw[←hos];exact osOk_of hlen (by rw[hos];exact hokA)
 have hsr0:SR e e.l:=by rw[hsr.toL];exact hsr
 have G0:Gd gt P os ⟨0,e,s,[]⟩:=⟨hsr0,fun o ho hb=>by simp at hb,fun o ho _ hb=>by simp at hb⟩
 have G1:=closeZ_ind (os:=os) (C:=Gd gt P os) (fun o ho m m1 Gm hz hb hs hd=>by
  obtain ⟨u,Du⟩:=doOn_ok hc Gm.sr hd
  exact Gm.add K hc ho hb hs Du) os _ n (fun o h=>h) hn G0
 have hg:∀y∈[n],Gd gt P os y∧zDone os y=true:=fun y hy=>by
  have :y=n:=by simpa using hy
  subst this;exact⟨G1,hz⟩
 have hrep:∀j,(Array.replicate ops.size false).getD j false=false:=fun j=>by
  rw [Array.getD_eq_getD_getElem?,Array.getElem?_replicate];split<;>rfl
 have H0:Rl gt cx s {w with drawn:=w.drawn+1} os (Array.replicate ops.size false) ⟨0,e,s,[]⟩ cx el act {w with drawn:=w.drawn+1}:=by
  refine ⟨E,hd,R, .refl _ _ _, .rfl,fun j hj=> ?_,fun o ho _ hb=>by simp at hb,by rw[hsr.toL],fun t _=>by rw[hsr.toL]⟩
  rw [hrep] at hj;cases hj
 have H1:=(closeZ_ind (os:=os) (C:=fun m=>Gd gt P os m∧Rl gt cx s {w with drawn:=w.drawn+1} os (Array.replicate ops.size false) m cx el act {w with drawn:=w.drawn+1}) (fun o' ho' m m1 Gm hz' hb' hs' hd'=>by
  obtain ⟨u,Du⟩:=doOn_ok hc Gm.1.sr hd'
  exact ⟨Gm.1.add K hc ho' hb' hs' Du,Gm.2.addZ K ho' hz' hb' Du⟩) os _ n (fun o h=>h) hn ⟨G0,H0⟩).2
 refine ⟨fin.e.l,(goLay_gd K hc _ _ _ hg hgo).sr,fun t=> ?_⟩
 simp only[Region.schedule,hm,Bool.true_or,if_true]
 refine wpAny_sound ops.size t _ act _ ?_
 refine any_wpA K his hback hc (cxb:=cx) (sb:=s) (wb:={w with drawn:=w.drawn+1}) (fin:=fin) E.gl (fun listed cx2 rl act2 w2 hall G H=> ?_) ops.size _ [n] n _ cx el act _ ?_ (by simp) (fun k hk=> ?_) (by simp) hg hgo H1
 ·have hrl:rl=fin.e.l:=by
   apply List.ext_getElem H.len
   intro j h1 h2
   have :=H.env j (fun⟨o,ho,_,_,hl,_⟩=>by rw[hall _ (K.mem o ho).1] at hl;cases hl)
   simpa [List.getD,h1,h2] using this
  subst hrl
  exact ⟨.nrm,_,fin.s,rfl,⟨rfl,rfl,rfl⟩,cx2,H.E,H.hd,H.R,H.X,⟨H.q.os,H.q.out⟩⟩
 ·unfold left
  rw [List.countP_eq_length.2]
  ·simp
  ·intro k hk
   have :k<ops.size:=List.mem_range.1 hk
   simp [this]
 ·rw[hrep] at hk;cases hk
end
end Rf
namespace Rf
open Go
inductive D where
 | f (g:Nat) (args:List V)
 | col (l:Nat)
 deriving Inhabited
inductive T where
 | c (c:Code)
 | blk (id:Nat)
 | lp (c:Code)
 | reg (ops:Array Oper) (i:Nat) (r:List Oper) (is:List I)
 | rf (l:Nat)
 | erf (l:Nat)
 | br
inductive Md where
 | run
 | ret
 | pan (ch:List (V×Bool))
structure AF where
 f :Nat
 e :Sl
 k :List T
 ds :List D
 md :Md
 kd :Bool
 ro :Option Nat
abbrev Cfg:=AF×List AF×St
def exitA (id:Nat):List T→Option (List T)
 | .blk id'::k=>if id'=id then some k else exitA id k
 | _::k=>exitA id k
 | []=>none
def finA (c:AF)(v:V):Option AF:=
 match c.k with
 | .reg ops i (o::r) (_::is)::k=>some {c with e:=c.e.setD o.dst v,k:= .reg ops (i+1) r is::k}
 | .rf l::k=>some {c with k:= .erf l::k}
 | .br::k=>some {c with k:=k}
 | _=>none
def raiseA (c:AF)(ch:List (V×Bool)):AF:=
 match c.md with
 | .pan old=>{c with md:= .pan (ch++old)}
 | _=>{c with md:= .pan ch}
def settleA:Md→Md
 | .pan ((_,true)::_)=> .ret
 | m=>m
def backA (kd:Bool)(c:AF)(v:V):Option AF:=
 match kd with
 | false=>finA c v
 | true=>some {c with md:=settleA c.md}
def enterA (P:Program)(f:Nat)(args:List V)(kd:Bool):Option AF:=
 match P.funcs[f]? with
 | none=>none
 | some fn=>match fn.body with
  | none=>none
  | some b=>if fn.name != "runtime.NumGoroutine" then some {f:=f,e:=Sl.of args fn.ntmps,k:=[.c b],ds:=[],md:= .run,kd:=kd,ro:=none} else none
def setPs (e:Sl):List Nat→List V→Option Sl
 | [],[]=>some e
 | p::ps,v::vs=>setPs (e.set p v) ps vs
 | _,_=>none
def recoverA (top:AF)(cs:List AF):Option (V×List AF):=
 match top.kd with
 | true=>match cs with
  | c::r=>match c.md with
   | .pan ((v,false)::old)=>some (v,{c with md:= .pan ((v,true)::old)}::r)
   | _=>some (.ni,cs)
  | []=>none
 | false=>some (.ni,cs)
def isDef:Op→Bool
 | .defer _=>true
 | _=>false
def panA (fr:AF)(cs:List AF)(s:St)(v:V):Option Cfg:=
 match v with
 | .ifc t v=>some (raiseA fr [(.ifc t v,false)],cs,s)
 | _=>none
def pathA (P:Program):List FieldStep→Nat→V→Option (Nat×V)
 | [],t,v=>some (t,v)
 | st::r,_,v=>match st.deref,P.underlying st.struct,v with
  | false,some (.struct fs), .ag cs=>match fs[st.index]? with
   | some fd=>match agP P fd.type,cs[fd.offset]? with
    | some false,some u=>pathA P r fd.type u
    | _,_=>none
   | none=>none
  | _,_,_=>none
def specA (gt:Nat→Option V)(P:Program)(fr:AF)(cs:List AF)(s:St)(o:Oper):Option Cfg:=
 match o.op with
 | .defer c=>match fr.ro,c.callee with
  | none, .value x=>match cArg gt x,mapO (cArg gt) c.args.toList with
   | some x,some l=>match x.sv fr.e with
    | .fn g cap=>(finA fr unV).map fun n=>({n with ds:= .f g (l.map (·.sv fr.e)++cap)::n.ds},cs,s)
    | _=>none
   | _,_=>none
  | _,_=>none
 | .panic x=>match cArg gt x with
  | some x=>panA fr cs s (x.sv fr.e)
  | none=>none
 | .call c=>match c.callee with
  | .builtin .panic=>match c.args.toList with
   | [x]=>match cArg gt x with
    | some x=>panA fr cs s (x.sv fr.e)
    | none=>none
   | _=>none
  | .builtin .recover=>match fr.ro,recoverA fr cs with
   | none,some (v,cs')=>(finA fr v).map fun fr=>(fr,cs',s)
   | _,_=>none
  | .invoke x m=>match cArg gt x,mapO (cArg gt) c.args.toList with
   | some x,some l=>match x.sv fr.e with
    | .ifc t v=>match P.info? t with
     | some info=>match info.methods.find? (·.name==m) with
      | some mt=>match pathA P mt.path.toList t v,mt.func with
       | some (t1,v1),some (f,ptr)=>match P.underlying t1,ptr with
        | some (.pointer _),true=>(enterA P f (v1::l.map (·.sv fr.e)) false).map fun n=>(n,fr::cs,s)
        | some (.pointer _),false=>none
        | some _,false=>(enterA P f (v1::l.map (·.sv fr.e)) false).map fun n=>(n,fr::cs,s)
        | _,_=>none
       | _,_=>none
      | none=>none
     | none=>none
    | _=>none
   | _,_=>none
  | _=>none
 | _=>none
def pendA (p:Option Code)(k:List T):List T:=match p with
 | some c=> .c c::k
 | none=>k
def roundEnd (fr:AF)(cs:List AF)(s:St)(l:Nat)(jump:Option Code):Option Cfg:=
 match s.get l,cs with
 | some (.x (.lp _ _ f e ps al9 bd ds)),c::r=>
  (backA fr.kd c (.b jump.isNone)).map fun c=>(c,r,s.put l (some (.x (.lp (if jump.isNone then .ready else .done) jump f e ps al9 bd ds))))
 | _,_=>none
def lastA (P:Program)(f:Nat)(e:Sl)(md:Md)(kd:Bool)(ro:Option Nat)(c:AF)(r:List AF)(s:St):Option Cfg:=
 match md with
 | .pan ch=>some (raiseA c ch,r,s)
 | .ret=>match ro with
  | some _=>none
  | none=>match P.funcs[f]? with
   | none=>none
   | some fn=>match mapO (cRs P) fn.results.toList with
    | none=>none
    | some rs=>match resVT e s rs with
     | none=>none
     | some vs=>(backA kd c (packV vs)).map fun c=>(c,r,s)
 | .run=>none
def stepA (gt:Nat→Option V)(P:Program)(wf:Nat→Nat→Nat→Bool)(kn call:Cl):AF→List AF→St→Option Cfg
 | ⟨f,e,k,ds,md,kd,ro⟩,cs,s=>
 match md with
 | .run=>match k with
  | []=>match ro with
   | none=>some (⟨f,e,k,ds, .ret,kd,ro⟩,cs,s)
   | some l=>roundEnd ⟨f,e,k,ds,md,kd,ro⟩ cs s l none
  | .c c::k=>match c with
   | .ret=>match ro with
    | none=>some (⟨f,e, .c .ret::k,ds, .ret,kd,ro⟩,cs,s)
    | some l=>roundEnd ⟨f,e, .c c::k,ds,md,kd,ro⟩ cs s l (some .ret)
   | .skip=>some (⟨f,e,k,ds,md,kd,ro⟩,cs,s)
   | .seq a b=>some (⟨f,e, .c a:: .c b::k,ds,md,kd,ro⟩,cs,s)
   | .cond x a b=>match cArg gt x with
    | some x=>match x.sv e with
     | .b true=>some (⟨f,e, .c a::k,ds,md,kd,ro⟩,cs,s)
     | .b false=>some (⟨f,e, .c b::k,ds,md,kd,ro⟩,cs,s)
     | _=>none
    | none=>none
   | .block id a=>some (⟨f,e, .c a:: .blk id::k,ds,md,kd,ro⟩,cs,s)
   | .loop a=>some (⟨f,e, .c a:: .lp a::k,ds,md,kd,ro⟩,cs,s)
   | .exit id=>match exitA id k with
    | some k=>some (⟨f,e,k,ds,md,kd,ro⟩,cs,s)
    | none=>match ro with
     | none=>none
     | some l=>roundEnd ⟨f,e, .c c::k,ds,md,kd,ro⟩ cs s l (some (.exit id))
   | .region id ops draw=>match cOps gt P (wf f id) ops 0 ops.toList with
    | some is=>match draw with
     | false=>some (⟨f,e, .reg ops 0 ops.toList is::k,ds,md,kd,ro⟩,cs,s)
     | true=>if ops.toList.any (fun o=>isDef o.op) then none else match cDrw ops.toList is with
      | some l=>match evDrwT call [] l e s with
       | some (e',s')=>some (⟨f,e',k,ds,md,kd,ro⟩,cs,s')
       | none=>none
      | none=>match anyA call ops.toList is e s with
       | some (e',s')=>some (⟨f,e',k,ds,md,kd,ro⟩,cs,s')
       | none=>none
    | none=>none
   | .rangeFunc g ps al9 bd=>match ro,cArg gt g with
    | none,some x=>match x.sv e with
     | .fn g cap=>
      (enterA P g (.yl (s.n+1)::cap) false).map fun n=>
       (n,⟨f,e, .rf (s.n+1)::k, .col s.n::ds,md,kd,ro⟩::cs,(s.new (.x (.df false))).new (.x (.lp .ready none f e ps.toList al9 bd s.n)))
     | _=>none
    | some l0,some x=>match x.sv e,s.get l0 with
     | .fn g cap,some (.x (.lp _ _ _ _ _ _ _ d0))=>
      (enterA P g (.yl s.n::cap) false).map fun n=>
       (n,⟨f,e, .rf s.n::k,ds,md,kd,ro⟩::cs,s.new (.x (.lp .ready none f e ps.toList al9 bd d0)))
     | _,_=>none
    | _,_=>none
   | _=>none
  | .blk _::k=>some (⟨f,e,k,ds,md,kd,ro⟩,cs,s)
  | .lp a::k=>some (⟨f,e, .c a:: .lp a::k,ds,md,kd,ro⟩,cs,s)
  | .reg ops i (o::r) (x::is)::k=>match wantedT e x.g with
   | some true=>match x.k with
    | .a y=>match aopT e s y with
     | some (v,s1)=>some (⟨f,e.setD o.dst v, .reg ops (i+1) r is::k,ds,md,kd,ro⟩,cs,s1)
     | none=>none
    | .call g args=>match kn g (args.map (·.sv e)) s with
     | some (v,s1)=>some (⟨f,e.setD o.dst v, .reg ops (i+1) r is::k,ds,md,kd,ro⟩,cs,s1)
     | none=>(enterA P g (args.map (·.sv e)) false).map fun n=>(n,⟨f,e, .reg ops i (o::r) (x::is)::k,ds,md,kd,ro⟩::cs,s)
    | .callv fa args=>match fa.sv e with
     | .fn g cap=>(enterA P g (args.map (·.sv e)++cap) false).map fun n=>(n,⟨f,e, .reg ops i (o::r) (x::is)::k,ds,md,kd,ro⟩::cs,s)
     | .yl l=>match s.get l with
      | some (.x (.lp _ _ f1 e1 ps al9 bd _))=>match setPs e1 ps (args.map (·.sv e)) with
       | some e2=>some (⟨f1,e2,[.c al9, .br, .c bd],[], .run,false,some l⟩,⟨f,e, .reg ops i (o::r) (x::is)::k,ds,md,kd,ro⟩::cs,s)
       | none=>none
      | _=>none
     | _=>none
    | .pan _=>specA gt P ⟨f,e, .reg ops i (o::r) (x::is)::k,ds,md,kd,ro⟩ cs s o
    | .bad=>specA gt P ⟨f,e, .reg ops i (o::r) (x::is)::k,ds,md,kd,ro⟩ cs s o
   | some false=>some (⟨f,e.setD o.dst unV, .reg ops (i+1) r is::k,ds,md,kd,ro⟩,cs,s)
   | none=>none
  | .reg _ _ [] _::k=>some (⟨f,e,k,ds,md,kd,ro⟩,cs,s)
  | .reg _ _ _ _::_=>none
  | .rf _::_=>none
  | .erf l::k=>match s.get l with
   | some (.x (.lp st pend f1 e1 ps al9 bd d0))=>match st with
    | .busy=>none
    | _=>some (⟨f,e,pendA pend k,ds,md,kd,ro⟩,cs,s.put l (some (.x (.lp .exhausted pend f1 e1 ps al9 bd d0))))
   | _=>none
  | .br::k=>match ro with
   | some l=>match s.get l with
    | some (.x (.lp .ready pend f1 e1 ps al9 bd d0))=>some (⟨f,e,k,ds,md,kd,ro⟩,cs,s.put l (some (.x (.lp .busy pend f1 e1 ps al9 bd d0))))
    | _=>none
   | none=>none
 | md=>match ds with
  | .col b::ds=>match s.get b with
   | some (.x (.df false))=>some (⟨f,e,k,ds,md,kd,ro⟩,cs,s.put b (some (.x (.df true))))
   | _=>none
  | .f g args::ds=>(enterA P g args true).map fun n=>(n,⟨f,e,k,ds,md,kd,ro⟩::cs,s)
  | []=>match cs with
   | c::r=>lastA P f e md kd ro c r s
   | []=>none
def qNth (s:St):List V→Nat→Option (V×St)
 | [],_=>none
 | v::_,0=>some (v,s)
 | _::r,o+1=>qNth s r o
theorem qNth_eq (s:St):∀(cs:List V)(o:Nat),qNth s cs o=(cs[o]?).map fun v=>(v,s)
 | [],_=>rfl
 | _::_,0=>rfl
 | _::r,o+1=>by simp only[qNth,qNth_eq s r o,List.getElem?_cons_succ]
def qObj1 (s:St)(o:Nat):Option O→Option (V×St)
 | some (.c cs _ _)=>qNth s cs o
 | _=>none
def qLoad1 (s:St):V→Option (V×St)
 | .p l o=>qObj1 s o (s.get l)
 | .q v o=>qNth s v.cells o
 | _=>none
def qTk (s:St)(cs:List V)(o n:Nat):Option (V×St):=match Nat.ble (o+n) cs.length with
 | true=>some (.ag ((cs.drop o).take n),s)
 | false=>none
def qObjn (s:St)(n o:Nat):Option O→Option (V×St)
 | some (.c cs _ _)=>qTk s cs o n
 | _=>none
def qLoadn (s:St)(n:Nat):V→Option (V×St)
 | .p l o=>qObjn s n o (s.get l)
 | .q v o=>qTk s v.cells o n
 | _=>none
def qPut (s:St)(n l o:Nat)(v:V):Option O→Option (V×St)
 | some (.c cs z ty)=>match v.isVal&&(Nat.beq v.cells.length n&&(Nat.ble (o+n) cs.length&&(Nat.beq n 0||Nat.ble z o))) with
  | true=>some (unV,s.put l (some (.c (setAt cs o v.cells) z ty)))
  | false=>none
 | _=>none
def qStore (s:St)(n:Nat)(v:V):V→Option (V×St)
 | .p l o=>qPut s n l o v (s.get l)
 | _=>none
def qFa (s:St)(off:Nat):V→Option (V×St)
 | .p l o=>some (.p l (o+off),s)
 | .q v o=>some (.q v (o+off),s)
 | _=>none
def qPick (s:St)(a b:V):V→Option (V×St)
 | .b true=>some (a,s)
 | .b false=>some (b,s)
 | _=>none
def qNot (s:St):V→Option (V×St)
 | .b v=>some (.b !v,s)
 | _=>none
def qLen (s:St):V→Option (V×St)
 | .ns=>some (.i .i64 0,s)
 | .sl _ _ _ n _=>some (.i .i64 n,s)
 | .se _ _=>some (.i .i64 0,s)
 | .pu _ xs _=>some (.i .i64 xs.length,s)
 | _=>none
def qExt (s:St)(i:Nat):V→Option (V×St)
 | .tu vs=>qNth s vs i
 | _=>none
def qNilc (s:St):V→Option (V×St)
 | .p l o=>some (.p l o,s)
 | .q v o=>some (.q v o,s)
 | .ifc t v=>some (.ifc t v,s)
 | .fn f c=>some (.fn f c,s)
 | _=>none
def qO (s:St):Option V→Option (V×St)
 | some v=>some (v,s)
 | none=>none
def qB (s:St)(neg:Bool):Option Bool→Option (V×St)
 | some v=>some (.b (if neg then !v else v),s)
 | none=>none
def aopQ (e:Sl)(s:St)(y:A):Option (V×St):=match y with
 | .mov x=>some (x.sv e,s)
 | .pick c a b=>qPick s (a.sv e) (b.sv e) (c.sv e)
 | .alloc t z=>some (.p s.n 0,s.new (.c z 0 (some t)))
 | .load1 a=>qLoad1 s (a.sv e)
 | .loadn n a=>qLoadn s n (a.sv e)
 | .store n a v=>qStore s n (v.sv e) (a.sv e)
 | .nilc x=>qNilc s (x.sv e)
 | .bin op x y=>qO s (binV op (x.sv e) (y.sv e))
 | .eql neg kd x y=>qB s neg (peq kd (x.sv e) (y.sv e))
 | .not x=>qNot s (x.sv e)
 | .fa off x=>qFa s off (x.sv e)
 | .ext x i=>qExt s i (x.sv e)
 | .len x=>qLen s (x.sv e)
 | y=>aopT e s y
theorem aopQ_eq (e:Sl)(s:St)(y:A):aopQ e s y=aopT e s y:=by
 cases y<;>first
  | rfl
  | skip
 case load1 a=>
  show qLoad1 s (a.sv e)=aop [] s (.load1 (.c (a.sv e)));simp only[aop,ev_c]
  cases a.sv e<;>try rfl
  ·rename_i l o
   simp only[qLoad1]
   cases s.get l with
   | none=>rfl
   | some ob=>cases ob<;>first|rfl|exact qNth_eq s _ _
  ·exact qNth_eq s _ _
 case loadn n a=>
  have hT:∀(cs:List V)(o:Nat),qTk s cs o n=if o+n≤cs.length then some (.ag ((cs.drop o).take n),s) else none:=fun cs o=>by
   unfold qTk
   by_cases h:o+n≤cs.length
   ·rw[if_pos h,show Nat.ble (o+n) cs.length=true by simpa using h]
   ·rw[if_neg h,show Nat.ble (o+n) cs.length=false by rw[←Bool.not_eq_true,Nat.ble_eq];exact h]
  show qLoadn s n (a.sv e)=aop [] s (.loadn n (.c (a.sv e)));simp only[aop,ev_c]
  cases a.sv e<;>try rfl
  ·rename_i l o
   simp only[qLoadn]
   cases s.get l with
   | none=>rfl
   | some ob=>cases ob<;>first|rfl|exact hT _ _
  ·exact hT _ _
 case store n a v=>
  show qStore s n (v.sv e) (a.sv e)=aop [] s (.store n (.c (a.sv e)) (.c (v.sv e)))
  generalize v.sv e=u
  have h0:aop [] s (.store n (.c (a.sv e)) (.c u))=(match a.sv e with
   | .p l o=>match s.get l with
    | some (.c cs z ty)=>if u.isVal=true∧u.cells.length=n∧o+n≤cs.length∧(n=0∨z≤o) then some (unV,s.put l (some (.c (setAt cs o u.cells) z ty))) else none
    | _=>none
   | _=>none):=rfl
  rw [h0]
  cases a.sv e<;>try rfl
  rename_i l o
  simp only[qStore]
  cases s.get l with
  | none=>rfl
  | some ob=>
   cases ob<;>try rfl
   rename_i cs z ty
   simp only[qPut]
   by_cases h:u.isVal=true∧u.cells.length=n∧o+n≤cs.length∧(n=0∨z≤o)
   ·rw[if_pos h]
    have :(u.isVal&&(Nat.beq u.cells.length n&&(Nat.ble (o+n) cs.length&&(Nat.beq n 0||Nat.ble z o))))=true:=by
     simpa [Bool.and_eq_true,Nat.beq_eq,Nat.ble_eq] using h
    rw [this]
   ·rw[if_neg h]
    have :(u.isVal&&(Nat.beq u.cells.length n&&(Nat.ble (o+n) cs.length&&(Nat.beq n 0||Nat.ble z o))))=false:=by
     rw [←Bool.not_eq_true];intro h2
     exact h (by simpa[Bool.and_eq_true,Nat.beq_eq,Nat.ble_eq] using h2)
    rw [this]
 case bin op x y=>show qO s (binV op (x.sv e) (y.sv e))=aop [] s (.bin op (.c (x.sv e)) (.c (y.sv e)));simp only[aop,ev_c];cases binV op (x.sv e) (y.sv e)<;>rfl
 case eql neg kd x y=>show qB s neg (peq kd (x.sv e) (y.sv e))=aop [] s (.eql neg kd (.c (x.sv e)) (.c (y.sv e)));simp only[aop,ev_c];cases peq kd (x.sv e) (y.sv e)<;>rfl
 case ext x i=>show qExt s i (x.sv e)=aop [] s (.ext (.c (x.sv e)) i);simp only[aop,ev_c];cases x.sv e<;>first|rfl|exact qNth_eq s _ _
def qNext (f:Nat)(e:Sl)(ds:List D)(kd:Bool)(ro:Option Nat)(cs:List AF)(ops:Array Oper)(i:Nat)(o:Oper)(r:List Oper)(is:List I)(k:List T):Option (V×St)→Option Cfg
 | some (v,s1)=>some (⟨f,e.setD o.dst v, .reg ops (i+1) r is::k,ds, .run,kd,ro⟩,cs,s1)
 | none=>none
def qOp (gt:Nat→Option V)(P:Program)(wf:Nat→Nat→Nat→Bool)(kn call:Cl)(f:Nat)(e:Sl)(ds:List D)(kd:Bool)(ro:Option Nat)(cs:List AF)(s:St)(ops:Array Oper)(i:Nat)(o:Oper)(r:List Oper)(x:I)(is:List I)(k:List T):Option Cfg:=
 match x.k with
 | .a y=>qNext f e ds kd ro cs ops i o r is k (aopQ e s y)
 | _=>stepA gt P wf kn call ⟨f,e, .reg ops i (o::r) (x::is)::k,ds, .run,kd,ro⟩ cs s
def qW (gt:Nat→Option V)(P:Program)(wf:Nat→Nat→Nat→Bool)(kn call:Cl)(f:Nat)(e:Sl)(ds:List D)(kd:Bool)(ro:Option Nat)(cs:List AF)(s:St)(ops:Array Oper)(i:Nat)(o:Oper)(r:List Oper)(x:I)(is:List I)(k:List T):Option Bool→Option Cfg
 | some true=>qOp gt P wf kn call f e ds kd ro cs s ops i o r x is k
 | _=>stepA gt P wf kn call ⟨f,e, .reg ops i (o::r) (x::is)::k,ds, .run,kd,ro⟩ cs s
def qK (gt:Nat→Option V)(P:Program)(wf:Nat→Nat→Nat→Bool)(kn call:Cl)(f:Nat)(e:Sl)(ds:List D)(kd:Bool)(ro:Option Nat)(cs:List AF)(s:St)(k:List T):Option Cfg:=match k with
 | .reg ops i (o::r) (x::is)::k=>qW gt P wf kn call f e ds kd ro cs s ops i o r x is k (wantedT e x.g)
 | k=>stepA gt P wf kn call ⟨f,e,k,ds, .run,kd,ro⟩ cs s
def stepQ (gt:Nat→Option V)(P:Program)(wf:Nat→Nat→Nat→Bool)(kn call:Cl):AF→List AF→St→Option Cfg
 | ⟨f,e,k,ds,md,kd,ro⟩,cs,s=>match md with
  | .run=>qK gt P wf kn call f e ds kd ro cs s k
  | md=>stepA gt P wf kn call ⟨f,e,k,ds,md,kd,ro⟩ cs s
theorem stepQ_eq (gt:Nat→Option V)(P:Program)(wf:Nat→Nat→Nat→Bool)(kn call:Cl)(a:AF)(cs:List AF)(s:St):stepQ gt P wf kn call a cs s=stepA gt P wf kn call a cs s:=by
 obtain ⟨f,e,k,ds,md,kd,ro⟩:=a
 cases md<;>try rfl
 show qK gt P wf kn call f e ds kd ro cs s k=_
 unfold qK
 split
 ·rename_i ops i o r x is k
  unfold qW
  split
  ·rename_i hw
   unfold qOp
   split
   ·rename_i y hy
    simp only[stepA,hw,hy,aopQ_eq]
    cases aopT e s y<;>rfl
   ·rfl
  ·rfl
 ·rfl
def endA (P:Program)(f0:Nat):AF→List AF→St→Option (V×St)
 | ⟨f,e,_,ds,md,kd,_⟩,cs,s=>match cs with
  | []=>match ds with
   | []=>match md with
    | .ret=>match kd with
     | false=>match Nat.beq f f0 with
      | true=>match P.funcs[f]? with
       | none=>none
       | some fn=>match mapO (cRs P) fn.results.toList with
        | none=>none
        | some rs=>match resVT e s rs with
         | none=>none
         | some vs=>some (packV vs,s)
      | false=>none
     | true=>none
    | _=>none
   | _=>none
  | _=>none
def runA (gt:Nat→Option V)(P:Program)(wf:Nat→Nat→Nat→Bool)(kn call:Cl)(f0:Nat):Nat→AF→List AF→St→Option (V×St)
 | 0,_,_,_=>none
 | n+1,fr,cs,s=>match stepQ gt P wf kn call fr cs s with
  | some (fr',cs',s')=>runA gt P wf kn call f0 n fr' cs' s'
  | none=>endA P f0 fr cs s
def callA (gt:Nat→Option V)(P:Program)(wf:Nat→Nat→Nat→Bool)(kn:Cl)(n:Nat):Nat→Cl
 | 0,_,_,_=>none
 | d+1,f,args,s=>match kn f args s with
  | some r=>some r
  | none=>match enterA P f args false with
   | some fr=>runA gt P wf kn (callA gt P wf kn n d) f n fr [] s
   | none=>none
end Rf
namespace Rf
open Go
theorem isDef_bad {gt:Nat→Option V}{P:Program}{wh:Bool}{op:Op}(h:isDef op=true):cK gt P wh op= .bad:=by
 cases op<;>first|(cases h;done)|rfl
section
variable (gt:Nat→Option V) (P:Program)
inductive DR (cx:Cx) (h:Array Obj) (n:Nat→Prop):D→Deferred→Prop
 | f (g:Nat) (args:List V) (xs cap:Array Value) (ha:ARep cx h n args (xs++cap)):DR cx h n (.f g args) {target:= .fn (.func g) cap,args:=xs}
 | col (l:Nat) (xs:Array Value) (hl:n l):DR cx h n (.col l) {target:= .collected (cx.r l).b,args:=xs}
inductive TR (cx:Cx) (n:Nat→Prop):T→Item→Prop
 | c (c:Code):TR cx n (.c c) (.code c)
 | blk (id:Nat):TR cx n (.blk id) (.inBlock id)
 | lp (c:Code):TR cx n (.lp c) (.inLoop c)
 | reg (ops:Array Oper) (i:Nat) (r:List Oper) (is:List I) (wf:Nat→Bool) (hr:r=ops.toList.drop i) (hc:cOps gt P wf ops i r=some is):TR cx n (.reg ops i r is) (.inRegion ops (List.range' i r.length))
 | rf (l:Nat) (hl:n l):TR cx n (.rf l) (.inRangeFunc (cx.r l).b)
 | erf (l:Nat) (hl:n l):TR cx n (.erf l) (.endRangeFunc (cx.r l).b)
 | br:TR cx n .br .beginRound
def PR (cx:Cx)(h:Array Obj)(n:Nat→Prop)(p:V×Bool)(x:PanicEntry):Prop:=VRep cx h n p.1 x.v∧x.recovered=p.2∧x.goexit=false
inductive MR (cx:Cx) (h:Array Obj) (n:Nat→Prop):Md→FrameMode→Prop
 | run:MR cx h n .run .run
 | ret:MR cx h n .ret .returning
 | pan (ch:List (V×Bool)) (chain:List PanicEntry) (hc:All2 (PR cx h n) ch chain):MR cx h n (.pan ch) (.panicking chain)
def kdOf:Bool→CallKind
 | true=> .deferred
 | false=> .normal
structure FR (cx:Cx) (h:Array Obj) (n:Nat→Prop) (a:AF) (F:Frame):Prop where
 f :F.fn=a.f
 e :∃el,SR a.e el∧ERep gt cx h n el F.tmps
 k :All2 (TR gt P cx n) a.k F.todo
 ds :All2 (DR cx h n) a.ds F.defers
 md :MR cx h n a.md F.mode
 kd :F.kind=kdOf a.kd
 ro :F.roundOf=a.ro.map fun l=>(cx.r l).b
 rn :∀l,a.ro=some l→n l
variable {gt P}
theorem ARep.later {cx cx':Cx}{h h':Array Obj}{n n':Nat→Prop}(L:Later cx h n cx' h' n'){args:List V}{xs:Array Value}(A:ARep cx h n args xs):ARep cx' h' n' args xs:=⟨A.len,fun j hj=>(A.rep j hj).later L⟩
theorem FR.later {cx cx':Cx}{h h':Array Obj}{n n':Nat→Prop}(L:Later cx h n cx' h' n'){a:AF}{F:Frame}(H:FR gt P cx h n a F):FR gt P cx' h' n' a F where
 f :=H.f
 e :=let⟨el,h1,h2⟩:=H.e;⟨el,h1,h2.later L⟩
 k :=H.k.mono fun t i hti=>by
  cases hti with
  | c c=>exact .c c
  | blk id=>exact .blk id
  | lp c=>exact .lp c
  | reg ops i r is wf hr hc=>exact .reg ops i r is wf hr hc
  | rf l hl=>rw[←L.r l hl];exact .rf l (L.nle _ hl)
  | erf l hl=>rw[←L.r l hl];exact .erf l (L.nle _ hl)
  | br=>exact .br
 ds :=H.ds.mono fun d x hdx=>by
  cases hdx with
  | f g args xs cap ha=>exact .f g args xs cap (ha.later L)
  | col l xs hl=>rw[←L.r l hl];exact .col l xs (L.nle _ hl)
 md :=by
  have :=H.md
  generalize a.md=m at this
  generalize F.mode=fm at this
  cases this with
  | run=>exact .run
  | ret=>exact .ret
  | pan ch chain hc=>exact .pan ch chain (hc.mono fun p x hx=>⟨hx.1.later L,hx.2⟩)
 kd :=H.kd
 ro :=by
  rw [H.ro]
  cases hr:a.ro with
  | none=>rfl
  | some l=>simp only[Option.map_some];rw[L.r l (H.rn l hr)]
 rn :=fun l hl=>L.nle _ (H.rn l hl)
structure Hr (cx:Cx) (s:St) (w:World) (a:AF) (F:Frame) (al9:List AF) (Fs:List Frame):Prop where
 fr :FR gt P cx w.heap s.L a F
 frs :All2 (FR gt P cx w.heap s.L) al9 Fs
 rel :Rel cx s w.heap
 g :GRep gt cx w.heap s.L
def To (cx:Cx)(s:St)(w:World)(F:Frame)(Fs:List Frame)(c:Cfg):Prop:=
 ∀ bs,∃(F':Frame)(Fs':List Frame)(w':World)(cx':Cx),Steps P (lone F (Fs++bs) w) (lone F' (Fs'++bs) w')∧Hr (gt:=gt) (P:=P) cx' c.2.2 w' c.1 F' c.2.1 Fs'∧Ext cx s w.heap cx' c.2.2 w'.heap∧Qt w w'
theorem exitA_ok {cx:Cx}{n:Nat→Prop}{id:Nat}:∀ {k:List T}{todo:List Item},All2 (TR gt P cx n) k todo→match exitA id k with
  | some k'=>∃todo',exitTo id todo=some todo'∧All2 (TR gt P cx n) k' todo'
  | none=>exitTo id todo=none
 | _,_, .nil=>rfl
 | _,_, .cons h t=>by
  have ih:=exitA_ok (id:=id) t
  cases h with
  | blk id'=>
   simp only[exitA,exitTo]
   by_cases hi:id'=id
   ·simp only[hi,if_true,beq_self_eq_true]
    exact ⟨_,rfl,t⟩
   ·have hb:(id'==id)=false:=by simpa using hi
    simp only[hi,if_false,hb,Bool.false_eq_true]
    exact ih
  | _=>exact ih
theorem evalF (F:Frame):F.eval=(⟨F.tmps,[]⟩:Act).eval:=funext fun x=>by cases x<;>rfl
theorem Hr.to {cx : Cx} {s : St} {w : World} {f : Nat} {e : Sl} {k k' : List T} {ds : List D} {md : Md} {kd : Bool} {ro : Option Nat} {F : Frame} {al9 : List AF} {Fs : List Frame} {todo' : List Item}
    (H : Hr (gt := gt) (P := P) cx s w ⟨f, e, k, ds, md, kd, ro⟩ F al9 Fs) (hk : All2 (TR gt P cx s.L) k' todo') (hs : ∀ cs, step P (lone F cs w) = .next (lone { F with todo := todo' } cs w)) :
    To (gt := gt) (P := P) cx s w F Fs (⟨f, e, k', ds, md, kd, ro⟩, al9, s) := fun bs =>
  ⟨{ F with todo := todo' }, Fs, w, cx, .one (hs _), ⟨⟨H.fr.f, H.fr.e, hk, H.fr.ds, H.fr.md, H.fr.kd, H.fr.ro, H.fr.rn⟩, H.frs, H.rel, H.g⟩, .refl _ _ _, .rfl⟩
section steps
variable {F:Frame} {cs:List Frame} {w w':World} {ops:Array Oper} {i:Nat} {rest:List Nat} {k:List Item} {o:Oper}
theorem oper_apply (ht:F.todo= .inRegion ops (i::rest)::k)(ho:ops[i]? =some o)(hd:isDef o.op=false):stepG.oper P true F cs none w=stepG.apply P true F cs none (execOp F.eval o) w:=by
 unfold stepG.oper
 simp only[Frame.oper?,ht,ho]
 split
 ·rename_i h;rw[h] at hd;cases hd
 ·rfl
theorem stepG_F (hm:F.mode= .run)(ht:F.todo= .inRegion ops (i::rest)::k)(ho:ops[i]? =some o)(hw:Region.wanted o (yielded ops F.tmps)=true):
  stepG P true {frame:=F,callers:=cs,status:= .running,dying:=none} w=stepG.oper P true F cs none w:=by
 simp only[stepG,hm,stepG.exec,ht,ho,hw,Option.map_some,Option.getD_some,if_true]
theorem step_val {x : Value} (hm : F.mode = .run) (ht : F.todo = .inRegion ops (i :: rest) :: k) (ho : ops[i]? = some o) (hw : Region.wanted o (yielded ops F.tmps) = true) (hd : isDef o.op = false)
    (hr : (execOp F.eval o).run P w = .ok (.value x) w' ∨ ((execOp F.eval o).run P w = .ok .skip w' ∧ x = undef)) :
    step P (lone F cs w) = .next (lone { F with tmps := ((⟨F.tmps, []⟩ : Act).put o.dst x).tmps, todo := .inRegion ops rest :: k } cs w') := by
  have hfin : F.finish x = { F with tmps := ((⟨F.tmps, []⟩ : Act).put o.dst x).tmps, todo := .inRegion ops rest :: k } := by
    simp only [Frame.finish, ht, ho, Option.bind_some]
    cases o.dst <;> rfl
  refine step_lone_go ?_
  rw [stepG_F hm ht ho hw, oper_apply ht ho hd, ← hfin]
  rcases hr with hr | ⟨hr, rfl⟩ <;> simp [stepG.apply, Sem.runT_eq, hr]
theorem step_skipop (hm : F.mode = .run) (ht : F.todo = .inRegion ops (i :: rest) :: k) (ho : ops[i]? = some o) (hw : Region.wanted o (yielded ops F.tmps) = false) :
    step P (lone F cs w) = .next (lone { F with tmps := ((⟨F.tmps, []⟩ : Act).put o.dst undef).tmps, todo := .inRegion ops rest :: k } cs w) := by
  have hfin : F.finish undef = { F with tmps := ((⟨F.tmps, []⟩ : Act).put o.dst undef).tmps, todo := .inRegion ops rest :: k } := by
    simp only [Frame.finish, ht, ho, Option.bind_some]
    cases o.dst <;> rfl
  refine step_lone_go ?_
  rw [← hfin]
  simp only [stepG, hm, stepG.exec, ht, ho, hw, Option.map_some, Option.getD_some, Bool.false_eq_true, if_false, GStep.bare_go]
theorem step_enter {g : Nat} {xs : Array Value} (hm : F.mode = .run) (ht : F.todo = .inRegion ops (i :: rest) :: k) (ho : ops[i]? = some o) (hw : Region.wanted o (yielded ops F.tmps) = true) (hd : isDef o.op = false)
    (hr : (execOp F.eval o).run P w = .ok (.enter g xs) w') : step P (lone F cs w) = .next (lone (Frame.enter P g xs .normal) (F :: cs) w') := by
  refine step_lone_go ?_
  rw [stepG_F hm ht ho hw, oper_apply ht ho hd]
  simp [stepG.apply, Sem.runT_eq, hr, ht]
theorem step_round {l f : Nat} {xs : Array Value} {al9 bd : Code} (hm : F.mode = .run) (ht : F.todo = .inRegion ops (i :: rest) :: k) (ho : ops[i]? = some o) (hw : Region.wanted o (yielded ops F.tmps) = true) (hd : isDef o.op = false)
    (hr : (execOp F.eval o).run P w = .ok (.round l f xs al9 bd) w') : step P (lone F cs w) = .next (lone (Frame.round l f xs al9 bd .normal) (F :: cs) w') := by
  refine step_lone_go ?_
  rw [stepG_F hm ht ho hw, oper_apply ht ho hd]
  simp [stepG.apply, Sem.runT_eq, hr]
theorem step_panicop {v : Value} (hm : F.mode = .run) (ht : F.todo = .inRegion ops (i :: rest) :: k) (ho : ops[i]? = some o) (hw : Region.wanted o (yielded ops F.tmps) = true) (hd : isDef o.op = false)
    (hr : (execOp F.eval o).run P w = .halt (.panic v) w') : step P (lone F cs w) = .next (lone { F with mode := .panicking [{ v, recovered := false }] } cs w') := by
  refine step_lone_go ?_
  rw [stepG_F hm ht ho hw, oper_apply ht ho hd]
  simp [stepG.apply, Sem.runT_eq, hr, Frame.raise, hm]
theorem step_deferop {d : Deferred} (hm : F.mode = .run) (hro : F.roundOf = none) (ht : F.todo = .inRegion ops (i :: rest) :: k) (ho : ops[i]? = some o) (hw : Region.wanted o (yielded ops F.tmps) = true)
    (hr : (execOp F.eval o).run P w = .ok (.defer d) w') :
    step P (lone F cs w) = .next (lone { F with defers := d :: F.defers, tmps := ((⟨F.tmps, []⟩ : Act).put o.dst undef).tmps, todo := .inRegion ops rest :: k } cs w') := by
  have hfin : ({ F with defers := d :: F.defers } : Frame).finish undef = { F with defers := d :: F.defers, tmps := ((⟨F.tmps, []⟩ : Act).put o.dst undef).tmps, todo := .inRegion ops rest :: k } := by
    simp only [Frame.finish, ht, ho, Option.bind_some]
    cases o.dst <;> rfl
  refine step_lone_go ?_
  have hop : stepG.oper P true F cs none w = stepG.apply P true F cs none (execOp F.eval o) w := by
    unfold stepG.oper
    simp only [Frame.oper?, ht, ho, hro]
  rw [stepG_F hm ht ho hw, hop, ← hfin]
  simp [stepG.apply, Sem.runT_eq, hr]
theorem step_recoverop (hm : F.mode = .run) (hro : F.roundOf = none) (ht : F.todo = .inRegion ops (i :: rest) :: k) (ho : ops[i]? = some o) (hw : Region.wanted o (yielded ops F.tmps) = true) (hd : isDef o.op = false)
    (hr : (execOp F.eval o).run P w = .ok .recover w') :
    step P (lone F cs w) = .next (match tryRecover F cs with
      | some (v, cs') => lone { F with tmps := ((⟨F.tmps, []⟩ : Act).put o.dst v).tmps, todo := .inRegion ops rest :: k } cs' w'
      | none => lone { F with tmps := ((⟨F.tmps, []⟩ : Act).put o.dst .nilIface).tmps, todo := .inRegion ops rest :: k } cs w') := by
  have hfin : ∀ x, F.finish x = { F with tmps := ((⟨F.tmps, []⟩ : Act).put o.dst x).tmps, todo := .inRegion ops rest :: k } := fun x => by
    simp only [Frame.finish, ht, ho, Option.bind_some]
    cases o.dst <;> rfl
  cases htr : tryRecover F cs with
  | none =>
    refine step_lone_go ?_
    rw [stepG_F hm ht ho hw, oper_apply ht ho hd, ← hfin]
    simp [stepG.apply, Sem.runT_eq, hr, hro, htr]
  | some p =>
    obtain ⟨v, cs'⟩ := p
    refine step_lone_go ?_
    rw [stepG_F hm ht ho hw, oper_apply ht ho hd, ← hfin]
    simp [stepG.apply, Sem.runT_eq, hr, hro, htr]
end steps
theorem enterA_ok {g:Nat}{args:List V}{kd:Bool}{n:AF}(h:enterA P g args kd=some n):callOk P g=true∧∀ {cx:Cx}{hp:Array Obj}{m:Nat→Prop}{xs:Array Value},GRep gt cx hp m→ARep cx hp m args xs→
  FR gt P cx hp m n (Frame.enter P g xs (kdOf kd)):=by
 unfold enterA at h
 split at h
 ·cases h
 ·rename_i fn hfn
  split at h
  ·cases h
  ·rename_i b hb
   split at h
   ·rename_i hn
    cases h
    refine ⟨by simp[callOk,hfn,hb,hn],fun{cx hp m xs} G A=> ?_⟩
    have E0:ERep gt cx hp m (args++List.replicate (fn.ntmps-args.length) unV) (xs++Array.replicate (fn.ntmps-xs.size) undef):=by
     refine ⟨G,by simp[A.len],fun t=> ?_⟩
     by_cases ht:t<args.length
     ·have h1:=A.rep t ht
      have e1:(args++List.replicate (fn.ntmps-args.length) unV).getD t unV=args.getD t .bad:=by
       simp only[List.getD];rw[List.getElem?_append_left ht,List.getElem?_eq_getElem ht];rfl
      have e2:(xs++Array.replicate (fn.ntmps-xs.size) undef).getD t undef=xs.getD t undef:=by
       apply arrGetD_eq;rw[Array.getElem?_append_left (by rw[A.len];exact ht)]
      rw [e1,e2];exact h1
     ·have e1:(args++List.replicate (fn.ntmps-args.length) unV).getD t unV=unV:=by
       simp only[List.getD];rw[List.getElem?_append_right (by omega),List.getElem?_replicate]
       split <;>rfl
      have e2:(xs++Array.replicate (fn.ntmps-xs.size) undef).getD t undef=undef:=by
       rw [Array.getD_eq_getD_getElem?,Array.getElem?_append_right (by rw[A.len];omega),Array.getElem?_replicate]
       split <;>rfl
      rw [e1,e2];exact VRep.un _ _ _
    exact {
     f :=rfl
     e :=⟨_,SR.of args fn.ntmps,by simpa[Frame.enter,hfn] using E0⟩
     k :=by simp only[Frame.enter,hfn,hb,Option.bind_some,Option.getD_some];exact .cons (.c b) .nil
     ds := .nil
     md := .run
     kd :=rfl
     ro :=rfl
     rn :=fun l hl=>by cases hl}
   ·cases h
end
end Rf
namespace Rf
open Go
section
variable {gt:Nat→Option V} {P:Program}
theorem ops_frame {ops : Array Oper} (hnd : ∀ (i : Nat) (o : Oper), ops[i]? = some o → isDef o.op = false) {Q : Exit → Act → World → Prop} (hQ : ∀ ex a w, Q ex a w → ex = .normal) : ∀ (l : List Nat) (a : Act) (w : World), wpOps P ops Q l a w →
    ∀ (F : Frame) (k : List Item) (cs : List Frame) (ds : List Deferred), F.mode = .run → F.todo = .inRegion ops l :: k → F.tmps = a.tmps → F.defers = a.defers ++ ds → ∃ a' w', Q .normal a' w' ∧ Steps P (lone F cs w) (lone { F with tmps := a'.tmps, todo := k, defers := a'.defers ++ ds } cs w')
  | [], a, w, h, F, k, cs, ds, hm, ht, he, hdf => by
    refine ⟨a, w, h, .one (step_lone_go ?_)⟩
    simp only [stepG, hm, stepG.exec, ht, GStep.bare_go, ← he, ← hdf]
  | i :: rest, a, w, h, F, k, cs, ds, hm, ht, he, hdf => by
    simp only [wpOps] at h
    cases ho : ops[i]? with
    | none =>
      simp only [ho] at h
      have hs : step P (lone F cs w) = .next (lone { F with todo := .inRegion ops rest :: k } cs w) := by
        refine step_lone_go ?_
        have hfin : F.finish undef = { F with todo := .inRegion ops rest :: k } := by simp only [Frame.finish, ht, ho, Option.bind_none]
        rw [← hfin]
        simp only [stepG, hm, stepG.exec, ht, ho, Option.map_none, Option.getD_none, Bool.false_eq_true, if_false, GStep.bare_go]
      obtain ⟨a', w', hq, hss⟩ := ops_frame hnd hQ rest a w h { F with todo := .inRegion ops rest :: k } k cs ds hm rfl he hdf
      exact ⟨a', w', hq, .head hs hss⟩
    | some o =>
      simp only [ho] at h
      have hd := hnd i o ho
      have hev : F.eval = a.eval := by rw [evalF F]; funext x; cases x <;> simp [Act.eval, he]
      by_cases hw : Region.wanted o (yielded ops a.tmps) = true
      · simp only [hw, if_true] at h
        have hwF : Region.wanted o (yielded ops F.tmps) = true := by rw [he]; exact hw
        rcases h with h | ⟨_, a₀, w₀, hq⟩
        case inr => have := hQ _ _ _ hq; cases this
        have hput : ∀ x, ((⟨F.tmps, []⟩ : Act).put o.dst x).tmps = (a.put o.dst x).tmps := fun x => by rw [he]; cases o.dst <;> rfl
        simp only [Oper.wp, Oper.upon] at h
        split at h
        · rename_i v w' hr
          have hs := step_val (P := P) (cs := cs) (x := v) hm ht ho hwF hd (.inl (by rw [hev]; exact hr))
          obtain ⟨a', w'', hq, hss⟩ := ops_frame hnd hQ rest _ _ h { F with tmps := ((⟨F.tmps, []⟩ : Act).put o.dst v).tmps, todo := .inRegion ops rest :: k } k cs ds (by exact hm) rfl (by simp only [hput]) (by simp only [put_defers]; exact hdf)
          exact ⟨a', w'', hq, .head hs hss⟩
        · rename_i w' hr
          have hs := step_val (P := P) (cs := cs) (x := undef) hm ht ho hwF hd (.inr ⟨by rw [hev]; exact hr, rfl⟩)
          obtain ⟨a', w'', hq, hss⟩ := ops_frame hnd hQ rest _ _ h { F with tmps := ((⟨F.tmps, []⟩ : Act).put o.dst undef).tmps, todo := .inRegion ops rest :: k } k cs ds (by exact hm) rfl (by simp only [hput]) (by simp only [put_defers]; exact hdf)
          exact ⟨a', w'', hq, .head hs hss⟩
        · rename_i d w' hr
          have hfin : ({ F with defers := d :: F.defers } : Frame).finish undef = { F with defers := d :: F.defers, tmps := ((⟨F.tmps, []⟩ : Act).put o.dst undef).tmps, todo := .inRegion ops rest :: k } := by
            simp only [Frame.finish, ht, ho, Option.bind_some]
            cases o.dst <;> rfl
          have hs : step P (lone F cs w) = .next (lone { F with defers := d :: F.defers, tmps := ((⟨F.tmps, []⟩ : Act).put o.dst undef).tmps, todo := .inRegion ops rest :: k } cs w') := by
            refine step_lone_go ?_
            rw [stepG_F hm ht ho hwF, oper_apply ht ho hd, ← hfin]
            simp [stepG.apply, Sem.runT_eq, hev, hr]
          obtain ⟨a', w'', hq, hss⟩ := ops_frame hnd hQ rest _ _ h { F with defers := d :: F.defers, tmps := ((⟨F.tmps, []⟩ : Act).put o.dst undef).tmps, todo := .inRegion ops rest :: k } k cs ds (by exact hm) rfl (by simp only [hput]; cases o.dst <;> rfl) (by simp only [put_defers, hdf]; rfl)
          exact ⟨a', w'', hq, .head hs hss⟩
        · rename_i f args w' hr
          obtain ⟨en, w'', fr, hR, hsteps, _, hleave⟩ := h (F :: cs)
          have henter := step_enter (P := P) (cs := cs) hm ht ho hwF hd (by rw [hev]; exact hr)
          cases en with
          | returned v =>
            have hback := step_leave_returned (c := F) (cs := cs) hleave
            have hfin : F.finish v = { F with tmps := ((⟨F.tmps, []⟩ : Act).put o.dst v).tmps, todo := .inRegion ops rest :: k } := by
              simp only [Frame.finish, ht, ho, Option.bind_some]
              cases o.dst <;> rfl
            rw [hfin] at hback
            obtain ⟨a', w₃, hq, hss⟩ := ops_frame hnd hQ rest _ _ hR { F with tmps := ((⟨F.tmps, []⟩ : Act).put o.dst v).tmps, todo := .inRegion ops rest :: k } k cs ds (by exact hm) rfl (by simp only [hput]) (by simp only [put_defers]; exact hdf)
            exact ⟨a', w₃, hq, .head henter (hsteps.trans (.head hback hss))⟩
          | panicked chain => have := hQ _ _ _ hR; cases this
          | outgrown => obtain ⟨a₀, w₀, hq⟩ := hR; have := hQ _ _ _ hq; cases this
        · rename_i row args w' hr
          obtain ⟨v, w'', hR, hsteps⟩ := h F cs
          have henter : step P (lone F cs w) = .next (lone (Frame.ofRow P row args .normal) (F :: cs) w') := by
            refine step_lone_go ?_
            rw [stepG_F hm ht ho hwF, oper_apply ht ho hd]
            simp [stepG.apply, Sem.runT_eq, hev, hr, ht]
          have hfin : F.finish v = { F with tmps := ((⟨F.tmps, []⟩ : Act).put o.dst v).tmps, todo := .inRegion ops rest :: k } := by
            simp only [Frame.finish, ht, ho, Option.bind_some]
            cases o.dst <;> rfl
          rw [hfin] at hsteps
          obtain ⟨a', w₃, hq, hss⟩ := ops_frame hnd hQ rest _ _ hR { F with tmps := ((⟨F.tmps, []⟩ : Act).put o.dst v).tmps, todo := .inRegion ops rest :: k } k cs ds (by exact hm) rfl (by simp only [hput]) (by simp only [put_defers]; exact hdf)
          exact ⟨a', w₃, hq, .head henter (hsteps.trans hss)⟩
        · have := hQ _ _ _ h; cases this
        · exact h.elim
      · simp only [hw, if_false, Bool.false_eq_true] at h
        have hs := step_skipop (P := P) (cs := cs) (w := w) hm ht ho (by rw [he]; simpa using hw)
        obtain ⟨a', w'', hq, hss⟩ := ops_frame hnd hQ rest _ _ h { F with tmps := ((⟨F.tmps, []⟩ : Act).put o.dst undef).tmps, todo := .inRegion ops rest :: k } k cs ds (by exact hm) rfl (by rw [he]; cases o.dst <;> rfl) (by simp only [put_defers]; exact hdf)
        exact ⟨a', w'', hq, .head hs hss⟩
theorem op_frame {ops : Array Oper} {i : Nat} {rest : List Nat} {o : Oper} {F : Frame} {k : List Item} {cs : List Frame} {w : World} {next : Act → World → Prop} (hm : F.mode = .run) (ht : F.todo = .inRegion ops (i :: rest) :: k) (ho : ops[i]? = some o) (hd : isDef o.op = false)
    (hw : Region.wanted o (yielded ops F.tmps) = true) (hn : ∀ a w, next a w → a.defers = []) (h : o.wp P ⟨F.tmps, []⟩ w next (fun _ _ _ => False)) :
    ∃ a' w', next a' w' ∧ Steps P (lone F cs w) (lone { F with tmps := a'.tmps, todo := .inRegion ops rest :: k } cs w') := by
  have hev : F.eval = (⟨F.tmps, []⟩ : Act).eval := evalF F
  simp only [Oper.wp, Oper.upon] at h
  split at h
  · rename_i v w' hr
    exact ⟨_, _, h, .one (step_val (x := v) hm ht ho hw hd (.inl (by rw [hev]; exact hr)))⟩
  · rename_i w' hr
    exact ⟨_, _, h, .one (step_val (x := undef) hm ht ho hw hd (.inr ⟨by rw [hev]; exact hr, rfl⟩))⟩
  · rename_i d w' hr
    have := hn _ _ h
    rw [put_defers] at this
    cases this
  · rename_i f args w' hr
    obtain ⟨en, w'', fr, hR, hsteps, _, hleave⟩ := h (F :: cs)
    have henter := step_enter (P := P) (cs := cs) hm ht ho hw hd (by rw [hev]; exact hr)
    cases en with
    | returned v =>
      have hback := step_leave_returned (c := F) (cs := cs) hleave
      have hfin : F.finish v = { F with tmps := ((⟨F.tmps, []⟩ : Act).put o.dst v).tmps, todo := .inRegion ops rest :: k } := by
        simp only [Frame.finish, ht, ho, Option.bind_some]
        cases o.dst <;> rfl
      rw [hfin] at hback
      exact ⟨_, _, hR, .head henter (hsteps.trans (.one hback))⟩
    | panicked chain => exact hR.elim
    | outgrown => obtain ⟨a₀, w₀, hq⟩ := hR; exact hq.elim
  · rename_i row args w' hr
    obtain ⟨v, w'', hR, hsteps⟩ := h F cs
    have henter : step P (lone F cs w) = .next (lone (Frame.ofRow P row args .normal) (F :: cs) w') := by
      refine step_lone_go ?_
      rw [stepG_F hm ht ho hw, oper_apply ht ho hd]
      simp [stepG.apply, Sem.runT_eq, hev, hr, ht]
    have hfin : F.finish v = { F with tmps := ((⟨F.tmps, []⟩ : Act).put o.dst v).tmps, todo := .inRegion ops rest :: k } := by
      simp only [Frame.finish, ht, ho, Option.bind_some]
      cases o.dst <;> rfl
    rw [hfin] at hsteps
    exact ⟨_, _, hR, .head henter hsteps⟩
  · exact h.elim
  · exact h.elim
section exec
variable {cx:Cx} {s:St} {w:World} {e:List V} {act:Act} {o:Oper} {wh:Bool}
theorem call_exec (E:ERep gt cx w.heap s.L e act.tmps){g:Nat}{args:List Arg}(hk:cK gt P wh o.op= .call g args):
  ∃ xs,(execOp act.eval o).run P w= .ok (.enter g xs) w∧ARep cx w.heap s.L (args.map (·.ev e)) xs:=by
 obtain ⟨dst,op,ty,pos,after,guard⟩:=o
 unfold cK at hk
 split at hk
 ·rename_i c hop
  obtain ⟨callee,cargs,ats⟩:=c
  simp only at hop
  split at hk
  ·rename_i f hcal
   simp only at hcal
   split at hk
   ·rename_i hok
    cases hm:mapO (cArg gt) cargs.toList with
    | none=>rw[hm] at hk;cases hk
    | some l=>
     rw [hm] at hk
     cases hk
     refine ⟨cargs.map act.eval, ?_,args_rep E hm⟩
     simp only[hop,hcal,execOp,resolve,Act.eval,Deferred.ofValue,Sem.run_bind,Sem.run_pure,Result.andThen_ok,invoke]
     rw [call_run hok]
     simp
   ·cases hx:cX gt P f cargs.toList with
    | none=>rw[hx] at hk;cases hk
    | some y=>rw[hx] at hk;cases hk
  ·rename_i f a b hcal
   simp only at hcal
   split at hk
   ·rename_i hok
    obtain ⟨hok,ha,hb⟩:=hok
    have ha':a= #[]:=Array.eq_empty_of_size_eq_zero ha
    have hb':b= #[]:=Array.eq_empty_of_size_eq_zero hb
    subst ha';subst hb'
    cases hm:mapO (cArg gt) cargs.toList with
    | none=>rw[hm] at hk;cases hk
    | some l=>
     rw [hm] at hk
     cases hk
     refine ⟨cargs.map act.eval, ?_,args_rep E hm⟩
     simp only[hop,hcal,execOp,resolve,Act.eval,Deferred.ofValue,Sem.run_bind,Sem.run_pure,Result.andThen_ok,invoke]
     rw [call_run hok]
     simp
   ·cases hk
  ·rename_i t hcal
   cases hm:mapO (cArg gt) cargs.toList with
   | none=>rw[hm] at hk;cases hk
   | some l=>rw[hm] at hk;cases hk
  ·split at hk
   ·rename_i x hx
    cases hy:cArg gt x with
    | none=>rw[hy] at hk;cases hk
    | some y=>rw[hy] at hk;cases hk
   ·cases hk
  ·cases hy:cA gt P wh op with
   | none=>rw[hy] at hk;cases hk
   | some y=>rw[hy] at hk;cases hk
 ·rename_i x _
  cases hy:cArg gt x with
  | none=>rw[hy] at hk;cases hk
  | some y=>rw[hy] at hk;cases hk
 ·cases hy:cA gt P wh op with
  | none=>rw[hy] at hk;cases hk
  | some y=>rw[hy] at hk;cases hk
theorem ARep.append {cx:Cx}{h:Array Obj}{n:Nat→Prop}{l cap:List V}{xs vs:Array Value}(a:ARep cx h n l xs)(b:ARep cx h n cap vs):ARep cx h n (l++cap) (xs++vs):=by
 refine ⟨by rw[Array.size_append,a.len,b.len,List.length_append],fun j hj=> ?_⟩
 by_cases hj1:j<l.length
 ·have h1:=a.rep j hj1
  have e1:(l++cap).getD j .bad=l.getD j .bad:=by simp only[List.getD];rw[List.getElem?_append_left hj1]
  have e2:(xs++vs).getD j undef=xs.getD j undef:=by apply arrGetD_eq;rw[Array.getElem?_append_left (by rw[a.len];exact hj1)]
  rw [e1,e2];exact h1
 ·have h1:=b.rep (j-l.length) (by rw[List.length_append] at hj;omega)
  have e1:(l++cap).getD j .bad=cap.getD (j-l.length) .bad:=by simp only[List.getD];rw[List.getElem?_append_right (by omega)]
  have e2:(xs++vs).getD j undef=vs.getD (j-l.length) undef:=by apply arrGetD_eq;rw[Array.getElem?_append_right (by rw[a.len];omega),a.len]
  rw [e1,e2];exact h1
theorem callv_exec (E:ERep gt cx w.heap s.L e act.tmps){fa:Arg}{args:List Arg}(hk:cK gt P wh o.op= .callv fa args):
  ∃ x xs,VRep cx w.heap s.L (fa.ev e) x∧ARep cx w.heap s.L (args.map (·.ev e)) xs∧execOp act.eval o=(do let d←Deferred.ofValue x xs;invoke d.target d.args):=by
 obtain ⟨dst,op,ty,pos,after,guard⟩:=o
 unfold cK at hk
 split at hk
 ·rename_i c hop
  obtain ⟨callee,cargs,ats⟩:=c
  simp only at hop
  split at hk
  ·rename_i f hcal
   split at hk
   ·cases hm:mapO (cArg gt) cargs.toList with
    | none=>rw[hm] at hk;cases hk
    | some l=>rw[hm] at hk;cases hk
   ·cases hx:cX gt P f cargs.toList with
    | none=>rw[hx] at hk;cases hk
    | some y=>rw[hx] at hk;cases hk
  ·split at hk
   ·cases hm:mapO (cArg gt) cargs.toList with
    | none=>rw[hm] at hk;cases hk
    | some l=>rw[hm] at hk;cases hk
   ·cases hk
  ·rename_i t hcal
   simp only at hcal
   cases hm:mapO (cArg gt) cargs.toList with
   | none=>rw[hm] at hk;cases hk
   | some l=>
    rw [hm] at hk
    cases hk
    exact ⟨act.tmps.getD t undef,cargs.map act.eval,E.rep t,args_rep E hm,by simp only[hop,hcal,execOp,resolve];rfl⟩
  ·split at hk
   ·rename_i x hx
    cases hy:cArg gt x with
    | none=>rw[hy] at hk;cases hk
    | some y=>rw[hy] at hk;cases hk
   ·cases hk
  ·cases hy:cA gt P wh op with
   | none=>rw[hy] at hk;cases hk
   | some y=>rw[hy] at hk;cases hk
 ·rename_i x _
  cases hy:cArg gt x with
  | none=>rw[hy] at hk;cases hk
  | some y=>rw[hy] at hk;cases hk
 ·cases hy:cA gt P wh op with
  | none=>rw[hy] at hk;cases hk
  | some y=>rw[hy] at hk;cases hk
theorem fn_call {g:Nat}(hok:callOk P g=true){vs xs:Array Value}:((do let d←Deferred.ofValue (.func (.func g) #[] vs) xs;invoke d.target d.args):Sem Next).run P w= .ok (.enter g (xs++vs)) w:=by
 simp only[Deferred.ofValue,Sem.run_bind,Sem.run_pure,Result.andThen_ok,invoke]
 rw [call_run hok]
 simp
end exec
end
end Rf
namespace Rf
open Go
section
variable {gt:Nat→Option V} {P:Program}
theorem MR.mode {cx:Cx}{h:Array Obj}{n:Nat→Prop}{fm:FrameMode}(H:MR cx h n .run fm):fm= .run:=by cases H;rfl
theorem MR.retm {cx:Cx}{h:Array Obj}{n:Nat→Prop}{fm:FrameMode}(H:MR cx h n .ret fm):fm= .returning:=by cases H;rfl
variable {cx:Cx} {s:St} {w:World} {F:Frame} {al9:List AF} {Fs:List Frame}
theorem Hr.mode {f : Nat} {e : Sl} {k : List T} {ds : List D} {md md' : Md} {kd : Bool} {ro : Option Nat} {m' : FrameMode} (H : Hr (gt := gt) (P := P) cx s w ⟨f, e, k, ds, md, kd, ro⟩ F al9 Fs)
    (hmd : MR cx w.heap s.L md' m') (hs : ∀ cs, step P (lone F cs w) = .next (lone { F with mode := m' } cs w)) : To (gt := gt) (P := P) cx s w F Fs (⟨f, e, k, ds, md', kd, ro⟩, al9, s) := fun bs =>
  ⟨{ F with mode := m' }, Fs, w, cx, .one (hs _), ⟨⟨H.fr.f, H.fr.e, H.fr.k, H.fr.ds, hmd, H.fr.kd, H.fr.ro, H.fr.rn⟩, H.frs, H.rel, H.g⟩, .refl _ _ _, .rfl⟩
def backF (kd:Bool)(C:Frame)(x:Value):Frame:=match kd with
 | false=>C.finish x
 | true=>{C with mode:=settle C.mode}
theorem backA_ok {c c':AF}{v:V}{x:Value}{C:Frame}{kd:Bool}(hb:backA kd c v=some c')(H:FR gt P cx w.heap s.L c C)(hv:VRep cx w.heap s.L v x):
  ∃ C',FR gt P cx w.heap s.L c' C'∧backF kd C x=C':=by
 cases kd with
 | true=>
  simp only[backA] at hb
  cases hb
  refine ⟨{C with mode:=settle C.mode},⟨H.f,H.e,H.k,H.ds, ?_,H.kd,H.ro,H.rn⟩,rfl⟩
  have :=H.md
  simp only
  generalize C.mode=fm at this ⊢
  generalize c.md=m at this ⊢
  cases this with
  | run=>exact .run
  | ret=>exact .ret
  | pan ch chain hc=>
   cases hc with
   | nil=>exact .pan _ _ .nil
   | @cons p y l m hp ht=>
    obtain ⟨pv,pb⟩:=p
    obtain ⟨yv,yr,yg⟩:=y
    obtain ⟨h1,h2,h3⟩:=hp
    simp only at h1 h2 h3
    subst h2;subst h3
    cases yr with
    | false=>exact .pan _ _ (.cons ⟨h1,rfl,rfl⟩ ht)
    | true=>
     have hall:m.dropWhile (fun x=> !x.goexit)=[]:=by
      clear h1
      induction ht with
      | nil=>rfl
      | cons h _ ih=>rw[List.dropWhile_cons,h.2.2];simpa using ih
     simp only[settleA,settle,hall]
     exact .ret
 | false=>
  simp only[backA,finA] at hb
  split at hb
  ·rename_i ops i o r x0 is k hk
   cases hb
   have hK:=H.k
   rw [hk] at hK
   obtain ⟨it,todo',ht,hti,hkk⟩:=hK.inv_cons
   cases hti with
   | reg _ _ _ _ wf hr hc=>
    have ho:ops[i]? =some o:=by
     have :(ops.toList.drop i)[0]? =some o:=by rw[←hr];rfl
     simpa using this
    have hr':r=ops.toList.drop (i+1):=by
     have :(ops.toList.drop i).tail=r:=by rw[←hr];rfl
     rw [←this];simp
    simp only[cOps] at hc
    split at hc
    ·rename_i y ys h1 h2
     cases hc
     refine ⟨_, ?_,rfl⟩
     obtain ⟨el,hsr,hE⟩:=H.e
     have hfin:C.finish x={C with tmps:=((⟨C.tmps,[]⟩:Act).put o.dst x).tmps,todo:= .inRegion ops (List.range' (i+1) r.length)::todo'}:=by
      simp only[Frame.finish,ht,List.length_cons,List.range'_succ,ho,Option.bind_some]
      cases o.dst<;>rfl
     show FR gt P cx w.heap s.L _ (C.finish x)
     rw [hfin]
     refine ⟨H.f,⟨_,hsr.setD o.dst v, ?_⟩, .cons (.reg ops (i+1) r is wf hr' h2) hkk,H.ds,H.md,H.kd,H.ro,H.rn⟩
     exact ERep.setD (act:=⟨C.tmps,[]⟩) hE hv o.dst
    ·cases hc
  ·rename_i l k hk
   cases hb
   have hK:=H.k
   rw [hk] at hK
   obtain ⟨it,todo',ht,hti,hkk⟩:=hK.inv_cons
   cases hti with
   | rf _ hl=>
    refine ⟨_, ?_,rfl⟩
    show FR gt P cx w.heap s.L _ (C.finish x)
    simp only[Frame.finish,ht]
    exact ⟨H.f,H.e, .cons (.erf l hl) hkk,H.ds,H.md,H.kd,H.ro,H.rn⟩
  ·rename_i k hk
   cases hb
   have hK:=H.k
   rw [hk] at hK
   obtain ⟨it,todo',ht,hti,hkk⟩:=hK.inv_cons
   cases hti
   refine ⟨_, ?_,rfl⟩
   show FR gt P cx w.heap s.L _ (C.finish x)
   simp only[Frame.finish,ht]
   exact ⟨H.f,H.e,hkk,H.ds,H.md,H.kd,H.ro,H.rn⟩
  ·cases hb
theorem doReturn_back {c:Frame}{cs:List Frame}{x:Value}{kd:Bool}(hk:F.kind=kdOf kd):
  (doReturn P true F (c::cs) none x w).bare= .go {frame:=backF kd c x,callers:=cs,status:= .running,dying:=none} w:=by
 cases kd with
 | false=>simp[doReturn,hk,kdOf,backF]
 | true=>
  obtain ⟨cf,ct,ctd,cd,cm,ck,cr⟩:=c
  simp only[doReturn,hk,kdOf,backF,GStep.bare_go]
  congr 2
  unfold settle
  cases cm with
  | run=>rfl
  | returning=>rfl
  | panicking chain=>
   cases chain with
   | nil=>rfl
   | cons p older=>
    obtain ⟨pv,pr,pg⟩:=p
    cases pr with
    | false=>rfl
    | true=>
     cases hd:List.dropWhile (fun x:PanicEntry=> !x.goexit) older<;>simp only[hd]
theorem roundEnd_ok {a:AF}{l:Nat}{jump:Option Code}{c:Cfg}(h:roundEnd a al9 s l jump=some c)(hro:a.ro=some l)(H:Hr (gt:=gt) (P:=P) cx s w a F al9 Fs)
  (hs:∀cs v w',(Instr.endRound (cx.r l).b jump).run P w= .ok v w'→(stepG P true {frame:=F,callers:=cs,status:= .running,dying:=none} w).bare=(doReturn P true F cs none v w').bare):To (gt:=gt) (P:=P) cx s w F Fs c:=by
 unfold roundEnd at h
 split at h
 ·rename_i st pend f e ps asn bd dd c0 r hg
  simp only[Option.map_eq_some_iff] at h
  obtain ⟨c1,hb,rfl⟩:=h
  obtain ⟨C,Fs',rfl,hC,hFs⟩:=H.frs.inv_cons
  obtain ⟨tmps,h1,h2,el,h3,h4,h5,h6⟩:=obj_x H.rel hg
  have hrun:=run_endRound (P:=P) jump h1
  obtain ⟨R',E'⟩:=H.rel.updX hg (.lp (if jump.isNone then .ready else .done) jump f e ps asn bd dd) (.loop ⟨if jump.isNone then .ready else .done,jump,f,tmps,ps.toArray,asn,bd,(cx.r dd).b⟩)
   (fun L=>⟨tmps,by simp[lt_of_get h1],h2,el,h3,h4,h5,fun t=>(h6 t).later L⟩) (fun _ _ _=>by simp)
  obtain ⟨C',hC',hfin⟩:=backA_ok (w:=w.putObj (cx.r l).b (.loop ⟨if jump.isNone then .ready else .done,jump,f,tmps,ps.toArray,asn,bd,(cx.r dd).b⟩)) (s:=s.put l (some (.x (.lp (if jump.isNone then .ready else .done) jump f e ps asn bd dd)))) hb (hC.later E'.later) (.b jump.isNone)
  intro bs
  refine ⟨C',Fs',w.putObj (cx.r l).b _,cx, .one (step_lone_go ?_),⟨hC',hFs.mono fun _ _ hx=>hx.later E'.later,R',H.g.later E'.later⟩,E',⟨rfl,rfl⟩⟩
  rw [hs _ _ _ hrun,List.cons_append,doReturn_back H.fr.kd,hfin]
 ·cases h
theorem setPs_ok {hp:Array Obj}{n:Nat→Prop}:∀(ps:List Nat)(vs:List V)(e e2:Sl),setPs e ps vs=some e2→∀(el:List V)(tmps:Array Value)(xs:List Value),SR e el→ERep gt cx hp n el tmps→xs.length=vs.length→(∀j,j<vs.length→VRep cx hp n (vs.getD j .bad) (xs.getD j undef))→
  ps.length=vs.length∧∃el2,SR e2 el2∧ERep gt cx hp n el2 ((ps.zip xs).foldl (fun tmps (t,a)=>tmps.setIfInBounds t a) tmps)
 | [],[],e,e2,h,el,tmps,xs,hs,hE,hl,hv=>by
  cases h
  exact ⟨rfl,el,hs,by simpa using hE⟩
 | p::ps,v::vs,e,e2,h,el,tmps,[],hs,hE,hl,hv=>by simp at hl
 | p::ps,v::vs,e,e2,h,el,tmps,x::xs,hs,hE,hl,hv=>by
  have hx:VRep cx hp n v x:=by simpa using hv 0 (by simp)
  obtain ⟨h1,el2,h2,h3⟩:=setPs_ok ps vs _ e2 h (el.set p v) (tmps.setIfInBounds p x) xs (hs.set p v) (hE.set hx p) (by simpa using hl) (fun j hj=>by simpa using hv (j+1) (by simpa using hj))
  exact ⟨by simp[h1],el2,h2,by simpa using h3⟩
 | [],v::vs,e,e2,h,_,_,_,_,_,_,_=>by cases h
 | p::ps,[],e,e2,h,_,_,_,_,_,_,_=>by cases h
theorem op_ok {f:Nat}{e:Sl}{ops:Array Oper}{i:Nat}{o:Oper}{r:List Oper}{x:I}{is:List I}{k:List T}{ds:List D}{kd:Bool}{ro:Option Nat}
  (H:Hr (gt:=gt) (P:=P) cx s w ⟨f,e, .reg ops i (o::r) (x::is)::k,ds, .run,kd,ro⟩ F al9 Fs):
  ∃ (wf:Nat→Bool)(el:List V)(todo':List Item),SR e el∧ERep gt cx w.heap s.L el F.tmps∧F.mode= .run∧F.todo= .inRegion ops (i::List.range' (i+1) r.length)::todo'∧ops[i]? =some o∧
   cI gt P (wf i) ops o=some x∧TR gt P cx s.L (.reg ops (i+1) r is) (.inRegion ops (List.range' (i+1) r.length))∧All2 (TR gt P cx s.L) k todo'∧(∀cx' n',(∀l,n' l→True)→TR gt P cx' n' (.reg ops (i+1) r is) (.inRegion ops (List.range' (i+1) r.length))):=by
 obtain ⟨el,hsr,hE⟩:=H.fr.e
 obtain ⟨it,todo',ht,hti,hkk⟩:=H.fr.k.inv_cons
 cases hti with
 | reg _ _ _ _ wf hr hc=>
  have ho:ops[i]? =some o:=by
   have :(ops.toList.drop i)[0]? =some o:=by rw[←hr];rfl
   simpa using this
  have hr':r=ops.toList.drop (i+1):=by
   have :(ops.toList.drop i).tail=r:=by rw[←hr];rfl
   rw [←this];simp
  simp only[cOps] at hc
  split at hc
  ·rename_i y ys h1 h2
   cases hc
   exact ⟨wf,el,todo',hsr,hE,H.fr.md.mode,by rw[ht];simp[List.range'_succ],ho,h1, .reg ops (i+1) r is wf hr' h2,hkk,fun _ _ _=> .reg ops (i+1) r is wf hr' h2⟩
  ·cases hc
theorem cons0 (x:Value)(a:Array Value):(#[x]++a)[0]? =some x:=by
 rw [Array.getElem?_append_left (by simp)];rfl
theorem cons1 (x:Value)(a:Array Value):(#[x]++a).extract 1 (#[x]++a).size=a:=by
 apply Array.ext'
 rw [Array.toList_extract,Array.toList_append,Array.size_append]
 simp
 exact List.take_of_length_le (by simp)
theorem pathA_ok {cx:Cx}{h:Array Obj}{n:Nat→Prop}{w:World}:∀(l:List FieldStep)(t:Nat)(u:V)(ux:Value)(t1:Nat)(v1:V),VRep cx h n u ux→pathA P l t u=some (t1,v1)→∃x,(follow l t (.val ux)).run P w= .ok (t1, .val x) w∧VRep cx h n v1 x
 | [],t,u,ux,t1,v1,hu,hp=>by
  simp only[pathA,Option.some.injEq,Prod.mk.injEq] at hp
  obtain ⟨rfl,rfl⟩:=hp
  exact ⟨ux,by simp[follow],hu⟩
 | st::r,t,u,ux,t1,v1,hu,hp=>by
  simp only[pathA] at hp
  split at hp
  case h_2=>cases hp
  rename_i fs cs hd hs
  split at hp
  case h_2=>cases hp
  rename_i fd hf
  split at hp
  case h_2=>cases hp
  rename_i u' ha hc
  cases hu
  rename_i vs q1 q2 q3
  have ho:=list_get_lt hc
  have ho':fd.offset<vs.size:=by rw[q1];exact ho
  have hrep:VRep cx h n u' vs[fd.offset]:=by
   have :=q3 fd.offset ho
   simpa [List.getD,hc,Array.getD_eq_getD_getElem?,ho'] using this
  obtain ⟨x,h1,h2⟩:=pathA_ok r fd.type u' vs[fd.offset] t1 v1 hrep hp
  refine ⟨x, ?_,h2⟩
  simp only[follow,Sem.run_bind,r_und w hs,Result.andThen_ok,hf,hd,Bool.false_eq_true,if_false]
  simp only[part,Sem.run_bind,r_isAgg w ha,Result.andThen_ok,Bool.false_eq_true,if_false,Array.getElem?_eq_getElem ho',Sem.run_pure]
  exact h1
theorem specA_ok {f : Nat} {e : Sl} {ops : Array Oper} {i : Nat} {o : Oper} {r : List Oper} {x : I} {is : List I} {k : List T} {ds : List D} {kd : Bool} {ro : Option Nat} {c : Cfg}
    (H : Hr (gt := gt) (P := P) cx s w ⟨f, e, .reg ops i (o :: r) (x :: is) :: k, ds, .run, kd, ro⟩ F al9 Fs) (hw : wantedT e x.g = some true)
    (h : specA gt P ⟨f, e, .reg ops i (o :: r) (x :: is) :: k, ds, .run, kd, ro⟩ al9 s o = some c) : To (gt := gt) (P := P) cx s w F Fs c := by
  obtain ⟨wf, el, todo', hsr, hE, hm, ht, ho, hcI, hTR, hkk, _⟩ := op_ok H
  rw [hsr.wanted] at hw
  have hwF : Region.wanted o (yielded ops F.tmps) = true := wanted_run (act := ⟨F.tmps, []⟩) hE hcI hw
  have hev := evalF F
  have hsv : (fun a : Arg => a.sv e) = fun a => a.ev el := funext hsr.ev
  obtain ⟨dst, op, ty, pos, after, guard⟩ := o
  have hpan : ∀ (v : V) (y : Value) , VRep cx w.heap s.L v y → (∀ (t : Nat) (u : Value), y = .iface t u → (execOp F.eval ⟨dst, op, ty, pos, after, guard⟩).run P w = .halt (.panic y) w) → isDef op = false →
      panA ⟨f, e, .reg ops i (⟨dst, op, ty, pos, after, guard⟩ :: r) (x :: is) :: k, ds, .run, kd, ro⟩ al9 s v = some c → To (gt := gt) (P := P) cx s w F Fs c := fun v y hv hrun hd hp => by
    unfold panA at hp
    split at hp
    · rename_i t u
      cases hp
      cases hv
      rename_i u' hu
      refine H.mode (m' := .panicking [{ v := .iface t u', recovered := false }]) (.pan _ _ (.cons ⟨.ifc t u u' hu, rfl, rfl⟩ .nil)) (fun cs => ?_)
      exact step_panicop hm ht ho hwF hd (hrun _ _ rfl)
    · cases hp
  cases op with
  | defer cl =>
    obtain ⟨callee, cargs, ats⟩ := cl
    cases ro with
    | some l0 => cases h
    | none =>
      cases callee with
      | invoke a b => cases h
      | builtin b => cases h
      | value xo =>
        simp only [specA] at h
        split at h
        case h_2 => cases h
        rename_i xa l hx hl
        split at h
        case h_2 => cases h
        rename_i g cap hg
        simp only [finA, Option.map_some, Option.some.injEq] at h
        subst h
        have hr1 := arg_rep (act := ⟨F.tmps, []⟩) hE hx
        rw [hsr.ev] at hg
        rw [hg] at hr1
        generalize hxv : Act.eval ⟨F.tmps, []⟩ xo = xv at hr1
        cases hr1
        rename_i vs hvs hvr
        have ar := args_rep (act := ⟨F.tmps, []⟩) hE hl
        have hrun : (execOp F.eval ⟨dst, .defer ⟨.value xo, cargs, ats⟩, ty, pos, after, guard⟩).run P w = .ok (.defer { target := .fn (.func g) vs, args := #[] ++ cargs.map (Act.eval ⟨F.tmps, []⟩) }) w := by
          simp only [execOp, resolve, hev, hxv, Deferred.ofValue, Sem.run_bind, Sem.run_pure, Result.andThen_ok]
        intro bs
        refine ⟨_, Fs, w, cx, .one (step_deferop hm H.fr.ro ht ho hwF hrun), ⟨⟨H.fr.f, ⟨_, hsr.setD dst unV, ?_⟩, .cons hTR hkk, .cons ?_ H.fr.ds, H.fr.md, H.fr.kd, H.fr.ro, H.fr.rn⟩, H.frs, H.rel, H.g⟩, .refl _ _ _, .rfl⟩
        · exact ERep.setD (act := ⟨F.tmps, []⟩) hE (VRep.un _ _ _) dst
        · refine .f g _ _ vs ?_
          have := ARep.append (b := ⟨hvs, hvr⟩) ar
          simpa [hsv] using this
  | panic xo =>
    simp only [specA] at h
    split at h
    case h_2 => cases h
    rename_i xa hx
    have hr1 := arg_rep (act := ⟨F.tmps, []⟩) hE hx
    rw [hsr.ev] at h
    refine hpan _ _ hr1 (fun t u hy => ?_) rfl h
    rw [hev]
    simp only [execOp, hy, Instr.panic, goPanic, Sem.run_bind]
    rfl
  | call cl =>
    obtain ⟨callee, cargs, ats⟩ := cl
    cases callee with
    | value xo => cases h
    | builtin b =>
      cases b <;> try (cases h; done)
      case panic =>
        simp only [specA] at h
        split at h
        case h_2 => cases h
        rename_i xo hca
        split at h
        case h_2 => cases h
        rename_i xa hx
        have hr1 := arg_rep (act := ⟨F.tmps, []⟩) hE hx
        rw [hsr.ev] at h
        refine hpan _ _ hr1 (fun t u hy => ?_) rfl h
        have hca' : cargs = #[xo] := by apply Array.ext'; exact hca
        subst hca'
        rw [hev]
        simp only [execOp, resolve, Sem.run_bind, Sem.run_pure, Result.andThen_ok, invoke, builtin]
        have : (#[xo].map (Act.eval ⟨F.tmps, []⟩)).getD 0 .nilIface = Act.eval ⟨F.tmps, []⟩ xo := by simp [Array.getD]
        rw [this, hy]
        rfl
      case recover =>
        simp only [specA] at h
        split at h
        case h_2 => cases h
        rename_i v cs' hrec
        simp only [finA, Option.map_some, Option.some.injEq] at h
        subst h
        have hrun : (execOp F.eval ⟨dst, .call ⟨.builtin .recover, cargs, ats⟩, ty, pos, after, guard⟩).run P w = .ok .recover w := by
          simp only [execOp, resolve, Sem.run_bind, Sem.run_pure, Result.andThen_ok, invoke, builtin]
        have hkd : F.kind = kdOf kd := H.fr.kd
        intro bs
        have hstep := step_recoverop (P := P) (cs := Fs ++ bs) hm H.fr.ro ht ho hwF rfl hrun
        have hnone : tryRecover F (Fs ++ bs) = none → (v, cs') = (.ni, al9) → ∃ (F' : Frame) (Fs' : List Frame) (w' : World) (cx' : Cx), Steps P (lone F (Fs ++ bs) w) (lone F' (Fs' ++ bs) w') ∧
            Hr (gt := gt) (P := P) cx' s w' ⟨f, e.setD dst v, .reg ops (i + 1) r is :: k, ds, .run, kd, none⟩ F' cs' Fs' ∧ Ext cx s w.heap cx' s w'.heap ∧ Qt w w' := fun htr heq => by
          cases heq
          rw [htr] at hstep
          exact ⟨_, Fs, w, cx, .one hstep, ⟨⟨H.fr.f, ⟨_, hsr.setD dst .ni, ERep.setD (act := ⟨F.tmps, []⟩) hE .ni dst⟩, .cons hTR hkk, H.fr.ds, H.fr.md, H.fr.kd, H.fr.ro, H.fr.rn⟩, H.frs, H.rel, H.g⟩, .refl _ _ _, .rfl⟩
        unfold recoverA at hrec
        cases kd with
        | false =>
          simp only [Option.some.injEq] at hrec
          exact hnone (by unfold tryRecover; rw [hkd]; rfl) hrec.symm
        | true =>
          cases al9 with
          | nil =>
            cases hrec
          | cons c0 al9' =>
            obtain ⟨C, Fs', rfl, hC, hFs⟩ := H.frs.inv_cons
            simp only at hrec
            have htr0 : tryRecover F (C :: Fs' ++ bs) = match C.mode with
              | .panicking ({ v, recovered := false, goexit := false } :: older) => some (v, { C with mode := .panicking ({ v, recovered := true } :: older) } :: (Fs' ++ bs))
              | _ => none := by
              unfold tryRecover
              rw [hkd]
              rfl
            have hMR := hC.md
            split at hrec
            · rename_i pv old hmd
              cases hrec
              rw [hmd] at hMR
              generalize hcm : C.mode = cm at hMR htr0
              cases hMR with
              | pan _ chain hch =>
                obtain ⟨p, m', rfl, hp, hrest⟩ := hch.inv_cons
                obtain ⟨yv, yr, yg⟩ := p
                obtain ⟨h1, h2, h3⟩ := hp
                simp only at h1 h2 h3
                subst h2; subst h3
                simp only at htr0
                rw [htr0] at hstep
                refine ⟨_, { C with mode := .panicking ({ v := yv, recovered := true } :: m') } :: Fs', w, cx, .one hstep, ⟨⟨H.fr.f, ⟨_, hsr.setD dst v, ERep.setD (act := ⟨F.tmps, []⟩) hE h1 dst⟩, .cons hTR hkk, H.fr.ds, H.fr.md, H.fr.kd, H.fr.ro, H.fr.rn⟩, .cons ?_ hFs, H.rel, H.g⟩, .refl _ _ _, .rfl⟩
                exact ⟨hC.f, hC.e, hC.k, hC.ds, .pan _ _ (.cons ⟨h1, rfl, rfl⟩ hrest), hC.kd, hC.ro, hC.rn⟩
            · rename_i hno
              simp only [Option.some.injEq] at hrec
              refine hnone ?_ hrec.symm
              rw [htr0]
              generalize hcm : C.mode = cm at hMR
              split
              · rename_i yv older
                exfalso
                cases hmd : c0.md with
                | run => rw [hmd] at hMR; cases hMR
                | ret => rw [hmd] at hMR; cases hMR
                | pan ch =>
                  rw [hmd] at hMR
                  cases hMR with
                  | pan _ _ hch =>
                    cases hch with
                    | cons hp hrest =>
                      rename_i q l
                      obtain ⟨qv, qb⟩ := q
                      have h2 := hp.2.1
                      simp only at h2
                      subst h2
                      exact hno _ _ hmd
              · rfl
    | invoke xo m =>
      simp only [specA] at h
      split at h
      case h_2 => cases h
      rename_i xa l hx hl
      split at h
      case h_2 => cases h
      rename_i t u hg
      split at h
      case h_2 => cases h
      rename_i info hinfo
      split at h
      case h_2 => cases h
      rename_i mt hmt
      split at h
      case h_2 => cases h
      rename_i t1 v1 g ptr hpath hfunc
      have hr1 := arg_rep (act := ⟨F.tmps, []⟩) hE hx
      rw [hsr.ev] at hg
      rw [hg] at hr1
      generalize hxv : Act.eval ⟨F.tmps, []⟩ xo = xv at hr1
      cases hr1
      rename_i ux0 hux0
      obtain ⟨ux, hfol, hux⟩ := pathA_ok (w := w) _ _ _ _ _ _ hux0 hpath
      have ar := args_rep (act := ⟨F.tmps, []⟩) hE hl
      have hent : ∀ n, enterA P g (v1 :: l.map (·.sv e)) false = some n → c = (n, ⟨f, e, .reg ops i (⟨dst, .call ⟨.invoke xo m, cargs, ats⟩, ty, pos, after, guard⟩ :: r) (x :: is) :: k, ds, .run, kd, ro⟩ :: al9, s) →
          (receiverAt t1 (.val ux) ptr (if mt.path.isEmpty then some ((m.splitOn ".").getLastD m) else none)).run P w = .ok ux w → To (gt := gt) (P := P) cx s w F Fs c := fun n hn hc hrecv => by
        subst hc
        obtain ⟨hok, hF⟩ := enterA_ok (gt := gt) hn
        have har : ARep cx w.heap s.L (v1 :: l.map (·.sv e)) (#[ux] ++ cargs.map (Act.eval ⟨F.tmps, []⟩)) := by
          have h1 : ARep cx w.heap s.L [v1] #[ux] := ⟨rfl, fun j hj => by
            match j, hj with
            | 0, _ => simpa using hux⟩
          have := h1.append ar
          simpa [hsv] using this
        have hrun : (execOp F.eval ⟨dst, .call ⟨.invoke xo m, cargs, ats⟩, ty, pos, after, guard⟩).run P w = .ok (.enter g (#[ux] ++ cargs.map (Act.eval ⟨F.tmps, []⟩))) w := by
          have hinf : (typeInfo t).run P w = .ok info w := by simp [typeInfo, hinfo]
          have hfind : info.methods.find? (fun x => x.name == m) = some mt := hmt
          have hmeth : (method (P.types.size + Made.depth) t ux0 m).run P w = .ok (g, ux) w := by
            have hpos : 0 < Made.depth := by decide
            have : P.types.size + Made.depth = (P.types.size + Made.depth - 1) + 1 := by omega
            rw [this, method]
            simp only [Sem.run_bind, hinf, Result.andThen_ok, hfind, hfol, Sem.run_pure, hfunc, hrecv]
          simp only [execOp, resolve, hev, hxv, Sem.run_bind, Sem.run_pure, Result.andThen_ok, invoke]
          simp only [cons0, cons1, callMethod, Sem.run_bind, run_program, Result.andThen_ok, hmeth]
          rw [call_run hok]
        intro bs
        exact ⟨_, F :: Fs, w, cx, .one (step_enter hm ht ho hwF rfl hrun), ⟨hF H.g har, .cons H.fr H.frs, H.rel, H.g⟩, .refl _ _ _, .rfl⟩
      split at h
      · rename_i el' hu
        simp only [Option.map_eq_some_iff] at h
        obtain ⟨n, hn, hc⟩ := h
        exact hent n hn hc.symm (by simp only [receiverAt, Sem.run_bind, r_und w hu, Result.andThen_ok, Place.get, Sem.run_pure])
      · cases h
      · rename_i d hnp hu
        simp only [Option.map_eq_some_iff] at h
        obtain ⟨n, hn, hc⟩ := h
        refine hent n hn hc.symm ?_
        cases d with
        | pointer el' => exact (hnp _ rfl).elim
        | _ => simp only [receiverAt, Sem.run_bind, r_und w hu, Result.andThen_ok, Place.get, Sem.run_pure]
      · cases h
  | _ => cases h
theorem enter_frame {g:Nat}{args:List V}{kd:Bool}{n:AF}{xs:Array Value}(hn:enterA P g args kd=some n){cx:Cx}{hp:Array Obj}{m:Nat→Prop}(G:GRep gt cx hp m)(A:ARep cx hp m args xs):FR gt P cx hp m n (Frame.enter P g xs (kdOf kd)):=(enterA_ok (gt:=gt) hn).2 G A
theorem step_rangeF {F : Frame} {cs : List Frame} {w w1 w2 : World} {g : Operand} {ps : Array Tmp} {asn bd : Code} {k : List Item} {l : Nat} {mark : List Deferred} {f : FuncId} {args : Array Value} (hm : F.mode = .run) (ht : F.todo = .code (.rangeFunc g ps asn bd) :: k)
    (he : (Instr.enterLoop F.fn F.tmps ps asn bd F.roundOf).run P w = .ok (l, mark) w1)
    (hi : (do let d ← resolve F.eval (rangeCall g l) 0; invoke d.target d.args : Sem Next).run P w1 = .ok (.enter f args) w2) :
    step P (lone F cs w) = .next (lone (Frame.enter P f args .normal) ({ F with todo := .inRangeFunc l :: k, defers := mark ++ F.defers } :: cs) w2) := by
  obtain ⟨fn, tmps, todo, defers, mode, kind, ro⟩ := F
  simp only at hm ht he
  subst hm; subst ht
  refine step_lone_go ?_
  have hev : (Frame.eval { fn := fn, tmps := tmps, todo := .inRangeFunc l :: k, defers := mark ++ defers, mode := .run, kind := kind, roundOf := ro }) = Frame.eval { fn := fn, tmps := tmps, todo := .code (.rangeFunc g ps asn bd) :: k, defers := defers, mode := .run, kind := kind, roundOf := ro } := funext fun x => by cases x <;> rfl
  rw [← hev] at hi
  simp only [stepG, stepG.exec, Sem.runT_eq, he, GStep.bare_after]
  simp [stepG.apply, Sem.runT_eq, hi]
theorem unwindA_ok {wf:Nat→Nat→Nat→Bool}{kn call:Cl}{f:Nat}{e:Sl}{k:List T}{ds:List D}{md:Md}{kd:Bool}{ro:Option Nat}{c:Cfg}(hmd:md≠ .run)(hmf:F.mode≠ .run)
  (h:stepA gt P wf kn call ⟨f,e,k,ds,md,kd,ro⟩ al9 s=some c) (H:Hr (gt:=gt) (P:=P) cx s w ⟨f,e,k,ds,md,kd,ro⟩ F al9 Fs)
  (hlast:∀c0 r,lastA P f e md kd ro c0 r s=some c→F.defers=[]→al9=c0::r→To (gt:=gt) (P:=P) cx s w F Fs c):To (gt:=gt) (P:=P) cx s w F Fs c:=by
 cases ds with
 | nil=>
  have hd:F.defers=[]:=H.fr.ds.inv_nil
  cases md with
  | run=>exact(hmd rfl).elim
  | ret=>
   cases al9 with
   | nil=>cases h
   | cons c0 r=>exact hlast c0 r h hd rfl
  | pan ch=>
   cases al9 with
   | nil=>cases h
   | cons c0 r=>exact hlast c0 r h hd rfl
 | cons d ds=>
  obtain ⟨dd,ds',hd,hdr,hds⟩:=H.fr.ds.inv_cons
  have h2:(match d with
   | .col b=>(match s.get b with
    | some (.x (.df false))=>some (⟨f,e,k,ds,md,kd,ro⟩,al9,s.put b (some (.x (.df true))))
    | _=>none)
   | .f g args=>(enterA P g args true).map fun n=>(n,⟨f,e,k,ds,md,kd,ro⟩::al9,s):Option Cfg)=some c:=by
   cases md with
   | run=>exact(hmd rfl).elim
   | ret=>cases d<;>exact h
   | pan ch=>cases d<;>exact h
  cases hdr with
  | f g args xs cap ha=>
   simp only[Option.map_eq_some_iff] at h2
   obtain ⟨n,hn,rfl⟩:=h2
   have hok:=(enterA_ok (gt:=gt) hn).1
   have hi:(invoke (.fn (.func g) cap) xs).run P w= .ok (.enter g (xs++cap)) w:=by simp only[invoke];exact call_run hok _ _
   intro bs
   exact ⟨_,{F with defers:=ds'}::Fs,w,cx, .one (step_defer hmf hd rfl hi),⟨enter_frame hn H.g ha, .cons ⟨H.fr.f,H.fr.e,H.fr.k,hds,H.fr.md,H.fr.kd,H.fr.ro,H.fr.rn⟩ H.frs,H.rel,H.g⟩, .refl _ _ _, .rfl⟩
  | col b xs hl=>
   simp only at h2
   split at h2
   case h_2=>cases h2
   rename_i hg
   cases h2
   have h1:w.heap[(cx.r b).b]? =some (.deferred (some [])):=by have:=obj_x H.rel hg;simpa[XRep] using this
   have hk:=run_takeDeferred (P:=P) h1
   obtain ⟨R',E'⟩:=H.rel.updX hg (.df true) (.deferred none) (fun L=>by simp[XRep,lt_of_get h1]) (fun _ _ _=>by simp)
   have hFL:=H.fr.later E'.later
   intro bs
   refine ⟨{F with defers:=[]++ds'},Fs,w.putObj (cx.r b).b (.deferred none),cx, .one (step_collected hmf hd rfl hk),⟨⟨hFL.f,hFL.e,hFL.k, ?_,hFL.md,hFL.kd,hFL.ro,hFL.rn⟩,H.frs.mono fun _ _ hx=>hx.later E'.later,R',H.g.later E'.later⟩,E',⟨rfl,rfl⟩⟩
   obtain ⟨_,_,q1,_,q3⟩:=hFL.ds.inv_cons
   rw [hd] at q1
   cases q1
   exact q3
theorem stepA_ok (hmo : P.follows .mixedOrders = true) {wf : Nat → Nat → Nat → Bool} {kn call : Cl} (hkn : ClOk gt P kn) (hcall : ClOk gt P call) {a : AF} {c : Cfg} (h : stepA gt P wf kn call a al9 s = some c) (H : Hr (gt := gt) (P := P) cx s w a F al9 Fs) : To (gt := gt) (P := P) cx s w F Fs c := by
  obtain ⟨f, e, k, ds, md, kd, ro⟩ := a
  obtain ⟨el, hsr, hE⟩ := H.fr.e
  have hev := evalF F
  have hsv : (fun a : Arg => a.sv e) = fun a => a.ev el := funext hsr.ev
  cases md with
  | run =>
    have hm : F.mode = .run := H.fr.md.mode
    cases k with
    | nil =>
      have ht : F.todo = [] := H.fr.k.inv_nil
      cases ro with
      | none =>
        cases h
        have hro : F.roundOf = none := H.fr.ro
        exact H.mode .ret (fun cs => step_lone_go (by simp only [stepG, hm, stepG.exec, ht, hro, GStep.bare_go, if_true]))
      | some l =>
        have hro : F.roundOf = some (cx.r l).b := H.fr.ro
        refine roundEnd_ok (jump := none) h rfl H (fun cs v w' hr => ?_)
        simp only [stepG, hm, stepG.exec, ht, hro, Sem.runT_eq, hr, GStep.bare_after]
    | cons t k =>
      obtain ⟨it, todo', ht, hti, hkk⟩ := H.fr.k.inv_cons
      cases t with
      | blk id =>
        cases hti
        cases h
        exact H.to hkk (fun cs => step_lone_go (by simp only [stepG, hm, stepG.exec, ht, GStep.bare_go]))
      | lp cc =>
        cases hti
        cases h
        exact H.to (.cons (.c _) (.cons (.lp _) hkk)) (fun cs => step_lone_go (by simp only [stepG, hm, stepG.exec, ht, GStep.bare_go]))
      | br =>
        cases hti
        simp only [stepA] at h
        split at h
        case h_2 => cases h
        rename_i l
        split at h
        case h_2 => cases h
        rename_i pend f1 e1 ps asn bd d0 hg
        cases h
        have hro : F.roundOf = some (cx.r l).b := H.fr.ro
        obtain ⟨tmps, h1, h2, el1, h3, h4, h5, h6⟩ := obj_x H.rel hg
        have hrun := run_beginRound (P := P) h1 rfl
        obtain ⟨R', E'⟩ := H.rel.updX hg (.lp .busy pend f1 e1 ps asn bd d0) (.loop ⟨.busy, pend, f1, tmps, ps.toArray, asn, bd, (cx.r d0).b⟩)
          (fun L => ⟨tmps, by simp [lt_of_get h1], h2, el1, h3, h4, h5, fun t => (h6 t).later L⟩) (fun _ _ _ => by simp)
        intro bs
        refine ⟨{ F with todo := todo' }, Fs, w.putObj (cx.r l).b _, cx, .one (step_lone_go ?_), ⟨⟨H.fr.f, ⟨el, hsr, hE.later E'.later⟩, hkk, ?_, ?_, H.fr.kd, H.fr.ro, H.fr.rn⟩, H.frs.mono fun _ _ hx => hx.later E'.later, R', H.g.later E'.later⟩, E', ⟨rfl, rfl⟩⟩
        · have hfin : F.finish undef = { F with todo := todo' } := by simp only [Frame.finish, ht]
          rw [← hfin]
          simp only [stepG, hm, stepG.exec, ht]
          simp [stepG.apply, Sem.runT_eq, hro, Option.elim, hrun]
        · exact (H.fr.later E'.later).ds
        · exact (H.fr.later E'.later).md
      | rf l => cases h
      | erf l =>
        cases hti
        rename_i hl
        simp only [stepA] at h
        split at h
        case h_2 => cases h
        rename_i st pend f1 e1 ps asn bd d0 hg
        obtain ⟨tmps, h1, h2, el1, h3, h4, h5, h6⟩ := obj_x H.rel hg
        have hnb : st ≠ .busy := by rintro rfl; cases h
        have hrun := run_endLoop (P := P) h1 hnb
        obtain ⟨R', E'⟩ := H.rel.updX hg (.lp .exhausted pend f1 e1 ps asn bd d0) (.loop ⟨.exhausted, pend, f1, tmps, ps.toArray, asn, bd, (cx.r d0).b⟩)
          (fun L => ⟨tmps, by simp [lt_of_get h1], h2, el1, h3, h4, h5, fun t => (h6 t).later L⟩) (fun _ _ _ => by simp)
        have hc : c = (⟨f, e, pendA pend k, ds, .run, kd, ro⟩, al9, s.put l (some (.x (.lp .exhausted pend f1 e1 ps asn bd d0)))) := by
          cases st <;> first | (cases h; rfl) | (cases h)
        subst hc
        intro bs
        refine ⟨{ F with todo := (pend.map Item.code).toList ++ todo' }, Fs, w.putObj (cx.r l).b _, cx, .one (step_lone_go ?_), ⟨⟨H.fr.f, ⟨el, hsr, hE.later E'.later⟩, ?_, (H.fr.later E'.later).ds, (H.fr.later E'.later).md, H.fr.kd, H.fr.ro, H.fr.rn⟩, H.frs.mono fun _ _ hx => hx.later E'.later, R', H.g.later E'.later⟩, E', ⟨rfl, rfl⟩⟩
        · simp only [stepG, hm, stepG.exec, ht, Sem.runT_eq, hrun, GStep.bare_after, GStep.bare_go]
        · cases pend with
          | none => exact hkk
          | some cc => exact .cons (.c cc) hkk
      | reg ops i r is =>
        cases r with
        | nil =>
          cases hti with
          | reg _ _ _ _ wfr hr hc =>
            have : c = (⟨f, e, k, ds, .run, kd, ro⟩, al9, s) := by cases is <;> (cases h; rfl)
            subst this
            exact H.to hkk (fun cs => step_lone_go (by simp only [stepG, hm, stepG.exec, ht, List.length_nil, List.range'_zero, GStep.bare_go]))
        | cons o r =>
          cases is with
          | nil => cases h
          | cons x is =>
            obtain ⟨wfr, el', todo2, hsr', hE', hm', ht', ho, hcI, hTR, hkk', _⟩ := op_ok H
            simp only [stepA] at h
            split at h
            · rename_i hw
              have hw1 := hw
              rw [hsr'.wanted] at hw
              have hwF : Region.wanted o (yielded ops F.tmps) = true := wanted_run (act := ⟨F.tmps, []⟩) hE' hcI hw
              obtain ⟨hxd, hxk⟩ := cI_dk hcI
              have hnd : x.k ≠ .bad → isDef o.op = false := fun hb => by
                cases hd : isDef o.op with
                | false => rfl
                | true => rw [hxk, isDef_bad hd] at hb; exact (hb rfl).elim
              split at h
              · -- an operation
                rename_i y hy
                split at h
                case h_2 => cases h
                rename_i v s1 hop
                cases h
                rw [hsr'.aop] at hop
                have hk : KRun gt P el' s (cK gt P (wfr i) o.op) v s1 := by rw [← hxk, hy]; exact hop
                intro bs
                obtain ⟨a', w', hA, hss⟩ := op_frame (P := P) (cs := Fs ++ bs) (k := todo2) (next := fun a' w' => a'.defers = [] ∧ ∃ cx', ERep gt cx' w'.heap s1.L (setD el' o.dst v) a'.tmps ∧ Rel cx' s1 w'.heap ∧ Ext cx s w.heap cx' s1 w'.heap ∧ Qt w w') hm' ht' ho (hnd (by rw [hy]; simp)) hwF (fun a w h => h.1)
                  (oper_run (act := ⟨F.tmps, []⟩) hE' rfl H.rel hk (fun x w' cx' e1 e2 e3 e4 => ⟨by rw [put_defers], cx', e1, e2, e3, e4⟩))
                obtain ⟨-, cx', e1, e2, e3, e4⟩ := hA
                exact ⟨_, Fs, w', cx', hss, ⟨⟨H.fr.f, ⟨_, hsr'.setD o.dst v, e1⟩, .cons (by cases hTR with | reg _ _ _ _ a b c => exact .reg _ _ _ _ a b c) ((H.fr.later e3.later).k.inv_cons.elim fun b hb => by obtain ⟨m', q1, q2, q3⟩ := hb; rw [ht'] at q1; cases q1; exact q3), (H.fr.later e3.later).ds, (H.fr.later e3.later).md, H.fr.kd, (H.fr.later e3.later).ro, (H.fr.later e3.later).rn⟩, H.frs.mono fun _ _ hx => hx.later e3.later, e2, e1.gl⟩, e3, e4⟩
              · -- a call
                rename_i g args hy
                split at h
                · rename_i v s1 hkv
                  cases h
                  have hsv' : (fun a : Arg => a.sv e) = fun a => a.ev el' := funext hsr'.ev
                  rw [hsv'] at hkv
                  have hk : KRun gt P el' s (cK gt P (wfr i) o.op) v s1 := by rw [← hxk, hy]; exact (hkn _ _ _ _ _ hkv).2
                  intro bs
                  obtain ⟨a', w', hA, hss⟩ := op_frame (P := P) (cs := Fs ++ bs) (k := todo2) (next := fun a' w' => a'.defers = [] ∧ ∃ cx', ERep gt cx' w'.heap s1.L (setD el' o.dst v) a'.tmps ∧ Rel cx' s1 w'.heap ∧ Ext cx s w.heap cx' s1 w'.heap ∧ Qt w w') hm' ht' ho (hnd (by rw [hy]; simp)) hwF (fun a w h => h.1)
                    (oper_run (act := ⟨F.tmps, []⟩) hE' rfl H.rel hk (fun x w' cx' e1 e2 e3 e4 => ⟨by rw [put_defers], cx', e1, e2, e3, e4⟩))
                  obtain ⟨-, cx', e1, e2, e3, e4⟩ := hA
                  exact ⟨_, Fs, w', cx', hss, ⟨⟨H.fr.f, ⟨_, hsr'.setD o.dst v, e1⟩, .cons (by cases hTR with | reg _ _ _ _ a b c => exact .reg _ _ _ _ a b c) ((H.fr.later e3.later).k.inv_cons.elim fun b hb => by obtain ⟨m', q1, q2, q3⟩ := hb; rw [ht'] at q1; cases q1; exact q3), (H.fr.later e3.later).ds, (H.fr.later e3.later).md, H.fr.kd, (H.fr.later e3.later).ro, (H.fr.later e3.later).rn⟩, H.frs.mono fun _ _ hx => hx.later e3.later, e2, e1.gl⟩, e3, e4⟩
                simp only [Option.map_eq_some_iff] at h
                obtain ⟨n, hn, rfl⟩ := h
                obtain ⟨xs, hrun, har⟩ := call_exec (act := ⟨F.tmps, []⟩) (o := o) (wh := wfr i) hE' (by rw [← hxk, hy])
                rw [← hev] at hrun
                have hsv' : (fun a : Arg => a.sv e) = fun a => a.ev el' := funext hsr'.ev
                rw [← hsv'] at har
                intro bs
                exact ⟨_, F :: Fs, w, cx, .one (step_enter hm' ht' ho hwF (hnd (by rw [hy]; simp)) hrun), ⟨enter_frame hn H.g har, .cons H.fr H.frs, H.rel, H.g⟩, .refl _ _ _, .rfl⟩
              · -- a call of a value
                rename_i fa args hy
                obtain ⟨y, xs, hyv, har, hex⟩ := callv_exec (act := ⟨F.tmps, []⟩) (o := o) (wh := wfr i) hE' (by rw [← hxk, hy])
                rw [← hev] at hex
                have hsv' : (fun a : Arg => a.sv e) = fun a => a.ev el' := funext hsr'.ev
                have har0 := har
                rw [← hsv'] at har
                have hdn := hnd (by rw [hy]; simp)
                split at h
                · rename_i g cap hfa
                  simp only [Option.map_eq_some_iff] at h
                  obtain ⟨n, hn, rfl⟩ := h
                  rw [hsr'.ev] at hfa
                  rw [hfa] at hyv
                  cases hyv
                  rename_i vs hvs hvr
                  have hok := (enterA_ok (gt := gt) hn).1
                  intro bs
                  refine ⟨_, F :: Fs, w, cx, .one (step_enter hm' ht' ho hwF hdn (xs := xs ++ vs) (g := g) (w' := w) ?_), ⟨enter_frame hn H.g (har.append ⟨hvs, hvr⟩), .cons H.fr H.frs, H.rel, H.g⟩, .refl _ _ _, .rfl⟩
                  rw [hex]; exact fn_call hok
                · rename_i l hfa
                  split at h
                  case h_2 => cases h
                  rename_i st pend f1 e1 ps asn bd d0 hg
                  split at h
                  case h_2 => cases h
                  rename_i e2 hps
                  cases h
                  rw [hsr'.ev] at hfa
                  rw [hfa] at hyv
                  cases hyv
                  rename_i hl
                  obtain ⟨tmps, h1, h2, el1, h3, h4, h5, h6⟩ := obj_x H.rel hg
                  obtain ⟨q1, el2, q2, q3⟩ := setPs_ok (gt := gt) (hp := w.heap) (n := s.L) ps (args.map (·.sv e)) e1 e2 hps el1 tmps xs.toList ⟨h3, h4⟩ ⟨H.g, h5, h6⟩ (by simpa using har.len) (fun j hj => by
                    have := har.rep j hj
                    rwa [show xs.getD j undef = xs.toList.getD j undef by simp [Array.getD_eq_getD_getElem?, List.getD]] at this)
                  have hlen : xs.size = ps.toArray.size := by rw [har.len]; simp [q1]
                  have hy := run_yield (P := P) (args := xs) h1 hlen
                  intro bs
                  refine ⟨_, F :: Fs, w, cx, .one (step_round hm' ht' ho hwF hdn (l := (cx.r l).b) (f := f1) (al9 := asn) (bd := bd) (w' := w) (xs := (ps.zip xs.toList).foldl (fun tmps (x : Nat × Value) => tmps.setIfInBounds x.1 x.2) tmps) ?_), ⟨⟨rfl, ⟨el2, q2, q3⟩, .cons (.c _) (.cons .br (.cons (.c _) .nil)), .nil, .run, rfl, rfl, fun l' hl' => by cases hl'; exact hl⟩, .cons H.fr H.frs, H.rel, H.g⟩, .refl _ _ _, .rfl⟩
                  rw [hex]
                  simp only [Deferred.ofValue, Sem.run_bind, Sem.run_pure, Result.andThen_ok, invoke, Array.empty_append, hy]
                  congr 2
                  rw [← Array.foldl_toList, Array.toList_zip]
                · cases h
              · -- another one
                exact specA_ok H hw1 h
              · exact specA_ok H hw1 h
            · rename_i hw
              rw [hsr'.wanted] at hw
              cases h
              have hwF : Region.wanted o (yielded ops F.tmps) = false := wanted_run (act := ⟨F.tmps, []⟩) hE' hcI hw
              intro bs
              exact ⟨_, Fs, w, cx, .one (step_skipop hm' ht' ho hwF), ⟨⟨H.fr.f, ⟨_, hsr'.setD o.dst unV, ERep.setD (act := ⟨F.tmps, []⟩) hE' (VRep.un _ _ _) o.dst⟩, .cons hTR hkk', H.fr.ds, H.fr.md, H.fr.kd, H.fr.ro, H.fr.rn⟩, H.frs, H.rel, H.g⟩, .refl _ _ _, .rfl⟩
            · cases h
      | c cc =>
        cases hti
        cases cc with
        | skip =>
          cases h
          exact H.to hkk (fun cs => step_lone_go (by simp only [stepG, hm, stepG.exec, ht, GStep.bare_go]))
        | ret =>
          cases ro with
          | none =>
            cases h
            have hro : F.roundOf = none := H.fr.ro
            exact H.mode .ret (fun cs => step_lone_go (by simp only [stepG, hm, stepG.exec, ht, hro, GStep.bare_go, if_true]))
          | some l =>
            have hro : F.roundOf = some (cx.r l).b := H.fr.ro
            refine roundEnd_ok (jump := some .ret) h rfl H (fun cs v w' hr => ?_)
            simp only [stepG, hm, stepG.exec, ht, hro, Sem.runT_eq, hr, GStep.bare_after]
        | seq a b =>
          cases h
          exact H.to (.cons (.c a) (.cons (.c b) hkk)) (fun cs => step_lone_go (by simp only [stepG, hm, stepG.exec, ht, GStep.bare_go]))
        | cond x a b =>
          simp only [stepA] at h
          split at h
          case h_2 => cases h
          rename_i xa hx
          have hr1 := arg_rep (act := ⟨F.tmps, []⟩) hE hx
          split at h
          · rename_i hb
            cases h
            rw [hsr.ev] at hb
            rw [hb] at hr1
            have hxv : F.eval x = .bool true := by rw [hev]; generalize Act.eval ⟨F.tmps, []⟩ x = xv at hr1 ⊢; cases hr1; rfl
            exact H.to (.cons (.c a) hkk) (fun cs => step_lone_go (by simp only [stepG, hm, stepG.exec, ht, hxv, if_true, GStep.bare_go]))
          · rename_i hb
            cases h
            rw [hsr.ev] at hb
            rw [hb] at hr1
            have hxv : F.eval x = .bool false := by rw [hev]; generalize Act.eval ⟨F.tmps, []⟩ x = xv at hr1 ⊢; cases hr1; rfl
            exact H.to (.cons (.c b) hkk) (fun cs => step_lone_go (by simp only [stepG, hm, stepG.exec, ht, hxv, Bool.false_eq_true, if_false, GStep.bare_go]))
          · cases h
        | block id a =>
          cases h
          exact H.to (.cons (.c a) (.cons (.blk id) hkk)) (fun cs => step_lone_go (by simp only [stepG, hm, stepG.exec, ht, GStep.bare_go]))
        | loop a =>
          cases h
          exact H.to (.cons (.c a) (.cons (.lp a) hkk)) (fun cs => step_lone_go (by simp only [stepG, hm, stepG.exec, ht, GStep.bare_go]))
        | exit id =>
          simp only [stepA] at h
          have hx := exitA_ok (gt := gt) (P := P) (id := id) hkk
          split at h
          · rename_i k' hk'
            cases h
            rw [hk'] at hx
            obtain ⟨todo2, h1, h2⟩ := hx
            exact H.to h2 (fun cs => step_lone_go (by simp only [stepG, hm, stepG.exec, ht, h1, Option.elim, GStep.bare_go]))
          · rename_i hk'
            rw [hk'] at hx
            cases ro with
            | none => cases h
            | some l =>
              have hro : F.roundOf = some (cx.r l).b := H.fr.ro
              refine roundEnd_ok (jump := some (.exit id)) h rfl H (fun cs v w' hr => ?_)
              have hx' : exitTo id todo' = none := hx
              simp only [stepG, hm, stepG.exec, ht, hx', Option.elim, hro, Sem.runT_eq, hr, GStep.bare_after]
        | region id ops draw =>
          simp only [stepA] at h
          split at h
          case h_2 => cases h
          rename_i is his
          cases draw with
          | false =>
            cases h
            refine H.to (todo' := .inRegion ops (List.range' 0 ops.toList.length) :: todo') (.cons (.reg ops 0 ops.toList is (wf f id) rfl his) hkk) (fun cs => step_lone_go ?_)
            simp only [stepG, hm, stepG.exec, ht, Bool.not_false, if_true, List.range_eq_range', Array.length_toList, GStep.bare_go]
          | true =>
            simp only at h
            split at h
            · cases h
            rename_i hnd
            have hx : ∃ e' s' el', some ((⟨f, e', k, ds, .run, kd, ro⟩ : AF), al9, s') = some c ∧ SR e' el' ∧ ∀ t, wpOps P ops (fun ex a' w' => ∃ x e2 s2, exitOf x = ex ∧ (x = X.nrm ∧ e2 = el' ∧ s2 = s') ∧ After gt cx s w e2 s2 a' w') (Region.schedule (P.follows .mixedOrders) ops t) ⟨F.tmps, []⟩ { w with drawn := w.drawn + 1 } := by
              split at h
              · rename_i l hl
                split at h
                case h_2 => cases h
                rename_i e' s' hev'
                obtain ⟨el', hsr2, hrun⟩ := evDrwT_ok call l [] e el s e' s' hsr hev'
                exact ⟨e', s', el', h, hsr2, drw_any (P := P) (gt := gt) (wf := wf f) (id := id) hmo his hl (evDrw_ok hcall l [] el s el' s' hrun) (Q := fun x e2 s2 => x = .nrm ∧ e2 = el' ∧ s2 = s') ⟨rfl, rfl, rfl⟩ cx w ⟨F.tmps, []⟩ hE rfl H.rel⟩
              · split at h
                case h_2 => cases h
                rename_i e' s' hev'
                obtain ⟨el', h1, h2⟩ := anyA_any hmo his hcall hsr hev' cx w ⟨F.tmps, []⟩ hE rfl H.rel
                exact ⟨e', s', el', h, h1, h2⟩
            obtain ⟨e', s', el', h, hsr2, hall⟩ := hx
            cases h
            have hnd' : ∀ (i : Nat) (o : Oper), ops[i]? = some o → isDef o.op = false := fun i o ho => by
              cases hd : isDef o.op with
              | false => rfl
              | true =>
                exfalso
                apply hnd
                rw [List.any_eq_true]
                exact ⟨o, by rw [Array.mem_toList_iff]; exact Array.mem_of_getElem? ho, hd⟩
            intro bs
            have hstep : step P (lone F (Fs ++ bs) w) = .next (lone { F with todo := .inRegion ops (Region.schedule (P.follows .mixedOrders) ops (w.tape w.drawn (.order F.fn id))) :: todo' } (Fs ++ bs) { w with drawn := w.drawn + 1 }) := by
              refine step_lone_go ?_
              simp only [stepG, hm, stepG.exec, ht]
              simp [choose, Sem.run, Question.forced, Question.cut, hm]
            obtain ⟨a', w', ⟨x2, e2, s2, hx2, ⟨rfl, rfl, rfl⟩, cx', A1, A2, A3, A4, A5⟩, hss⟩ := ops_frame (P := P) hnd' (Q := fun ex a' w' => ∃ x e2 s2, exitOf x = ex ∧ (x = X.nrm ∧ e2 = el' ∧ s2 = s') ∧ After gt cx s w e2 s2 a' w') (fun ex a w ⟨x, _, _, h1, ⟨h2, _⟩, _⟩ => by subst h2; exact h1.symm)
              _ ⟨F.tmps, []⟩ { w with drawn := w.drawn + 1 } (hall (w.tape w.drawn (.order F.fn id))) { F with todo := .inRegion ops (Region.schedule (P.follows .mixedOrders) ops (w.tape w.drawn (.order F.fn id))) :: todo' } todo' (Fs ++ bs) F.defers hm rfl rfl rfl
            rw [A2] at hss
            have hFL := H.fr.later A4.later
            exact ⟨_, Fs, w', cx', .head hstep hss, ⟨⟨H.fr.f, ⟨_, hsr2, A1⟩, (hFL.k.inv_cons).elim fun b hb => by obtain ⟨m', q1, q2, q3⟩ := hb; rw [ht] at q1; cases q1; exact q3, hFL.ds, hFL.md, hFL.kd, hFL.ro, hFL.rn⟩, H.frs.mono fun _ _ hx => hx.later A4.later, A3, A1.gl⟩, A4, A5⟩
        | rangeFunc g ps asn bd =>
          cases ro with
          | none =>
            simp only [stepA] at h
            split at h
            case h_3 => cases h
            case h_2 h0 _ => cases h0
            rename_i xa _ hx
            have hr1 := arg_rep (act := ⟨F.tmps, []⟩) hE hx
            split at h
            case h_2 => cases h
            rename_i g' cap hg
            simp only [Option.map_eq_some_iff] at h
            obtain ⟨n, hn, rfl⟩ := h
            rw [hsr.ev] at hg
            rw [hg] at hr1
            generalize hxv : Act.eval ⟨F.tmps, []⟩ g = xv at hr1
            cases hr1
            rename_i vs hvs hvr
            have hro : F.roundOf = none := H.fr.ro
            have hfn : F.fn = f := H.fr.f
            obtain ⟨cx1, c1, c2, c3⟩ := H.rel.newX (.df false) (.deferred (some [])) (fun cx' hc L => by simp [XRep])
            obtain ⟨cx2, d1, d2, d3⟩ := c2.newX (.lp .ready none f e ps.toList asn bd s.n) (.loop ⟨.ready, none, F.fn, F.tmps, ps, asn, bd, w.heap.size⟩) (fun cx' hc L => by
              have hsn : (s.new (.x (.df false))).L s.n := St.new_L0 _ H.rel.gl
              refine ⟨F.tmps, ?_, L.nle _ hsn, el, hsr.1, hsr.2, hE.len, fun t => ((hE.rep t).later c3.later).later L⟩
              rw [Array.getElem?_push_size, L.r _ hsn, c1]
              simp [hfn])
            have E2 := c3.trans d3
            have hen := run_enterLoop_outer (P := P) (w := w) F.fn F.tmps ps asn bd
            rw [← hro] at hen
            have hok := (enterA_ok (gt := gt) hn).1
            have hinv : (do let d ← resolve F.eval (rangeCall g (w.heap.size + 1)) 0; invoke d.target d.args : Sem Next).run P ((w.alloc (.deferred (some []))).alloc (.loop { state := .ready, pending := none, fn := F.fn, tmps := F.tmps, params := ps, assign := asn, body := bd, defers := w.heap.size })) = .ok (.enter g' (#[Value.func (.yield (w.heap.size + 1)) #[] #[]] ++ vs)) ((w.alloc (.deferred (some []))).alloc (.loop { state := .ready, pending := none, fn := F.fn, tmps := F.tmps, params := ps, assign := asn, body := bd, defers := w.heap.size })) := by
              have : F.eval (.const (.func (.yield (w.heap.size + 1)) #[] #[])) = .func (.yield (w.heap.size + 1)) #[] #[] := rfl
              have hmap : ∀ v, Array.map (Act.eval ⟨F.tmps, []⟩) #[Operand.const v] = #[v] := fun v => by simp [Act.eval]
              simp only [resolve, rangeCall, hev, hxv, hmap]
              exact fn_call hok
            have hstep := fun cs => step_rangeF (P := P) (cs := cs) hm ht hen hinv
            intro bs
            have hL2 := E2.later
            have hyl : VRep cx2 ((w.heap.push (.deferred (some []))).push (.loop ⟨.ready, none, F.fn, F.tmps, ps, asn, bd, w.heap.size⟩)) ((s.new (.x (.df false))).new (.x (.lp .ready none f e ps.toList asn bd s.n))).L (.yl (s.n + 1)) (.func (.yield (w.heap.size + 1)) #[] #[]) := by
              have := VRep.yl (cx := cx2) (h := (w.heap.push (.deferred (some []))).push (.loop ⟨.ready, none, F.fn, F.tmps, ps, asn, bd, w.heap.size⟩)) (n := ((s.new (.x (.df false))).new (.x (.lp .ready none f e ps.toList asn bd s.n))).L) (s.n + 1) (St.new_L0 (s := s.new (.x (.df false))) _ c2.gl)
              have hd1 : cx2.r (s.n + 1) = ⟨w.heap.size + 1, 0, 0, 0⟩ := by have := d1; simpa using this
              rw [hd1] at this
              exact this
            have hFL := H.fr.later hL2
            have hcol : cx2.r s.n = ⟨w.heap.size, 0, 0, 0⟩ := by rw [d3.later.r _ (St.new_L0 _ H.rel.gl), c1]
            have hrf : cx2.r (s.n + 1) = ⟨w.heap.size + 1, 0, 0, 0⟩ := by have := d1; simpa using this
            refine ⟨_, { F with todo := .inRangeFunc (w.heap.size + 1) :: todo', defers := [{ target := .collected w.heap.size, args := #[] }] ++ F.defers } :: Fs, (w.alloc (.deferred (some []))).alloc (.loop { state := .ready, pending := none, fn := F.fn, tmps := F.tmps, params := ps, assign := asn, body := bd, defers := w.heap.size }), cx2, .one (hstep _), ⟨enter_frame hn (H.g.later hL2) ?_, .cons ⟨hFL.f, hFL.e, .cons ?_ ?_, .cons ?_ hFL.ds, hFL.md, hFL.kd, hFL.ro, hFL.rn⟩ (H.frs.mono fun _ _ hx => hx.later hL2), d2, H.g.later hL2⟩, E2, ⟨rfl, rfl⟩⟩
            · have h1 : ARep cx2 _ _ [V.yl (s.n + 1)] #[Value.func (.yield (w.heap.size + 1)) #[] #[]] := ⟨rfl, fun j hj => by
                match j, hj with
                | 0, _ => simpa using hyl⟩
              have h2 : ARep cx w.heap s.L cap vs := ⟨hvs, hvr⟩
              exact h1.append (h2.later hL2)
            · have := TR.rf (gt := gt) (P := P) (cx := cx2) (n := ((s.new (.x (.df false))).new (.x (.lp .ready none f e ps.toList asn bd s.n))).L) (s.n + 1) (St.new_L0 (s := s.new (.x (.df false))) _ c2.gl)
              rwa [hrf] at this
            · exact (hFL.k.inv_cons).elim fun b hb => by obtain ⟨m', q1, q2, q3⟩ := hb; rw [ht] at q1; cases q1; exact q3
            · have := DR.col (cx := cx2) (h := (w.heap.push (.deferred (some []))).push (.loop ⟨.ready, none, F.fn, F.tmps, ps, asn, bd, w.heap.size⟩)) (n := ((s.new (.x (.df false))).new (.x (.lp .ready none f e ps.toList asn bd s.n))).L) s.n #[] (d3.later.nle _ (St.new_L0 _ H.rel.gl))
              rwa [hcol] at this
          | some l0 =>
            simp only [stepA] at h
            split at h
            case h_3 => cases h
            case h_1 h0 _ => cases h0
            rename_i l0' xa hl0 hx
            cases hl0
            have hr1 := arg_rep (act := ⟨F.tmps, []⟩) hE hx
            split at h
            case h_2 => cases h
            rename_i g' cap st0 pend0 f0 e0 ps0 as0 bd0 d0 hg hg0
            simp only [Option.map_eq_some_iff] at h
            obtain ⟨n, hn, rfl⟩ := h
            rw [hsr.ev] at hg
            rw [hg] at hr1
            generalize hxv : Act.eval ⟨F.tmps, []⟩ g = xv at hr1
            cases hr1
            rename_i vs hvs hvr
            have hro : F.roundOf = some (cx.r l0).b := H.fr.ro
            have hfn : F.fn = f := H.fr.f
            obtain ⟨tm0, g1, g2, -⟩ := obj_x H.rel hg0
            obtain ⟨cx2, d1, d2, d3⟩ := H.rel.newX (.lp .ready none f e ps.toList asn bd d0) (.loop ⟨.ready, none, F.fn, F.tmps, ps, asn, bd, (cx.r d0).b⟩) (fun cx' hc L => by
              refine ⟨F.tmps, ?_, L.nle _ g2, el, hsr.1, hsr.2, hE.len, fun t => (hE.rep t).later L⟩
              rw [L.r _ g2]
              simp [hfn])
            have hen := run_enterLoop_inner (P := P) g1 F.fn F.tmps ps asn bd
            rw [← hro] at hen
            have hok := (enterA_ok (gt := gt) hn).1
            have hinv : (do let d ← resolve F.eval (rangeCall g w.heap.size) 0; invoke d.target d.args : Sem Next).run P (w.alloc (.loop { state := .ready, pending := none, fn := F.fn, tmps := F.tmps, params := ps, assign := asn, body := bd, defers := (cx.r d0).b })) = .ok (.enter g' (#[Value.func (.yield w.heap.size) #[] #[]] ++ vs)) (w.alloc (.loop { state := .ready, pending := none, fn := F.fn, tmps := F.tmps, params := ps, assign := asn, body := bd, defers := (cx.r d0).b })) := by
              have hmap : ∀ v, Array.map (Act.eval ⟨F.tmps, []⟩) #[Operand.const v] = #[v] := fun v => by simp [Act.eval]
              simp only [resolve, rangeCall, hev, hxv, hmap]
              exact fn_call hok
            have hstep := fun cs => step_rangeF (P := P) (cs := cs) hm ht hen hinv
            intro bs
            have hL2 := d3.later
            have hyl := VRep.yl (cx := cx2) (h := w.heap.push (.loop ⟨.ready, none, F.fn, F.tmps, ps, asn, bd, (cx.r d0).b⟩)) (n := (s.new (.x (.lp .ready none f e ps.toList asn bd d0))).L) s.n (St.new_L0 _ H.rel.gl)
            rw [d1] at hyl
            have hFL := H.fr.later hL2
            refine ⟨_, { F with todo := .inRangeFunc w.heap.size :: todo', defers := [] ++ F.defers } :: Fs, w.alloc (.loop { state := .ready, pending := none, fn := F.fn, tmps := F.tmps, params := ps, assign := asn, body := bd, defers := (cx.r d0).b }), cx2, .one (hstep _), ⟨enter_frame hn (H.g.later hL2) ?_, .cons ⟨hFL.f, hFL.e, .cons ?_ ?_, hFL.ds, hFL.md, hFL.kd, hFL.ro, hFL.rn⟩ (H.frs.mono fun _ _ hx => hx.later hL2), d2, H.g.later hL2⟩, d3, ⟨rfl, rfl⟩⟩
            · have h1 : ARep cx2 _ _ [V.yl s.n] #[Value.func (.yield w.heap.size) #[] #[]] := ⟨rfl, fun j hj => by
                match j, hj with
                | 0, _ => simpa using hyl⟩
              have h2 : ARep cx w.heap s.L cap vs := ⟨hvs, hvr⟩
              exact h1.append (h2.later hL2)
            · have := TR.rf (gt := gt) (P := P) (cx := cx2) (n := (s.new (.x (.lp .ready none f e ps.toList asn bd d0))).L) s.n (St.new_L0 _ H.rel.gl)
              rwa [d1] at this
            · exact (hFL.k.inv_cons).elim fun b hb => by obtain ⟨m', q1, q2, q3⟩ := hb; rw [ht] at q1; cases q1; exact q3
        | _ => cases h
  | ret =>
    have hm : F.mode = .returning := H.fr.md.retm
    refine unwindA_ok (md := .ret) (by simp) (by rw [hm]; simp) h H (fun c0 r hc hds has => ?_)
    subst has
    cases ro with
    | some l => cases hc
    | none =>
      simp only [lastA] at hc
      split at hc
      · cases hc
      rename_i fn hfn
      split at hc
      · cases hc
      rename_i rs hrs
      split at hc
      · cases hc
      rename_i vs hvs
      simp only [Option.map_eq_some_iff] at hc
      obtain ⟨c1, hb, rfl⟩ := hc
      obtain ⟨C, Fs', rfl, hC, hFs⟩ := H.frs.inv_cons
      rw [hsr.resV] at hvs
      obtain ⟨y, y1, y2⟩ := results_rep (act := ⟨F.tmps, []⟩) hE H.rel hrs hvs
      obtain ⟨C', hC', hfin⟩ := backA_ok hb hC y2
      have hfn' : P.funcs[F.fn]? = some fn := by rw [H.fr.f]; exact hfn
      intro bs
      refine ⟨C', Fs', w, cx, .one (step_lone_go ?_), ⟨hC', hFs, H.rel, H.g⟩, .refl _ _ _, .rfl⟩
      have y1' : (results fn F.tmps).run P w = .ok y w := y1
      have := doReturn_back (F := F) (P := P) (c := C) (cs := Fs' ++ bs) (x := y) (w := w) (kd := kd) H.fr.kd
      rw [hfin] at this
      rw [← this]
      simp only [stepG, hm, unwind, hds, hfn', Sem.runT_eq, y1', GStep.bare_after, List.cons_append]
  | pan ch =>
    have hMR := H.fr.md
    generalize hmf : F.mode = fm at hMR
    cases hMR with
    | pan _ chain hch =>
      refine unwindA_ok (md := .pan ch) (by simp) (by rw [hmf]; simp) h H (fun c0 r hc hds has => ?_)
      subst has
      simp only [lastA, Option.some.injEq] at hc
      subst hc
      obtain ⟨C, Fs', rfl, hC, hFs⟩ := H.frs.inv_cons
      have hcat : F.catches P = false := by
        unfold Frame.catches
        split
        · rename_i h1 h2
          have := H.fr.k
          rw [h2] at this
          cases this with
          | cons hti _ => cases hti
        · rfl
      have hstep : ∀ cs, step P (lone F (C :: cs) w) = .next (lone (C.raise chain) cs w) := fun cs => step_lone_go (by simp [stepG, unwind, hcat, hmf, hds])
      intro bs
      refine ⟨C.raise chain, Fs', w, cx, .one (hstep _), ⟨?_, hFs, H.rel, H.g⟩, .refl _ _ _, .rfl⟩
      have hCm := hC.md
      unfold raiseA Frame.raise
      generalize hcm : C.mode = cm at hCm
      generalize hcmd : c0.md = cmd at hCm
      cases hCm with
      | run => exact ⟨hC.f, hC.e, hC.k, hC.ds, .pan _ _ hch, hC.kd, hC.ro, hC.rn⟩
      | ret => exact ⟨hC.f, hC.e, hC.k, hC.ds, .pan _ _ hch, hC.kd, hC.ro, hC.rn⟩
      | pan ch2 chain2 hch2 => exact ⟨hC.f, hC.e, hC.k, hC.ds, .pan _ _ (hch.append hch2), hC.kd, hC.ro, hC.rn⟩
theorem runA_ok (hmo:P.follows .mixedOrders=true){wf:Nat→Nat→Nat→Bool}{kn call:Cl}(hkn:ClOk gt P kn)(hcall:ClOk gt P call){f0:Nat}{v:V}{s':St}:∀(n:Nat){a:AF}{al9:List AF}{s:St}{cx:Cx}{w:World}{F:Frame}{Fs:List Frame},runA gt P wf kn call f0 n a al9 s=some (v,s')→Hr (gt:=gt) (P:=P) cx s w a F al9 Fs→
  ∀ bs,∃(F':Frame)(w':World)(x:Value)(cx':Cx),Steps P (lone F (Fs++bs) w) (lone F' bs w')∧F'.leaving P w' (.returned x)∧F'.fn=f0∧VRep cx' w'.heap s'.L v x∧Rel cx' s' w'.heap∧Ext cx s w.heap cx' s' w'.heap∧Qt w w'
 | 0,a,al9,s,cx,w,F,Fs,h,H,bs=>by cases h
 | n+1,a,al9,s,cx,w,F,Fs,h,H,bs=>by
  simp only[runA,stepQ_eq] at h
  split at h
  ·rename_i fr' cs' s1 hst
   obtain ⟨F1,Fs1,w1,cx1,h1,h2,h3,h4⟩:=stepA_ok hmo hkn hcall hst H bs
   obtain ⟨F',w',x,cx',g1,g2,g3,g4,g5,g6,g7⟩:=runA_ok hmo hkn hcall n h h2 bs
   exact ⟨F',w',x,cx',h1.trans g1,g2,g3,g4,g5,h3.trans g6,h4.trans g7⟩
  ·obtain⟨f,e,k,ds,md,kd,ro⟩:=a
   simp only[endA] at h
   split at h
   case h_2=>cases h
   split at h
   case h_2=>cases h
   split at h
   case h_2=>cases h
   split at h
   case h_2=>cases h
   split at h
   case h_2=>cases h
   rename_i hb
   split at h
   ·cases h
   rename_i fn hfn
   split at h
   ·cases h
   rename_i rs hrs
   split at h
   ·cases h
   rename_i vs hvs
   cases h
   have hFs:=H.frs.inv_nil
   subst hFs
   obtain ⟨el,hsr,hE⟩:=H.fr.e
   rw [hsr.resV] at hvs
   obtain ⟨y,y1,y2⟩:=results_rep (act:=⟨F.tmps,[]⟩) hE H.rel hrs hvs
   have hf:f=f0:=Nat.eq_of_beq_eq_true hb
   exact ⟨F,w,y,cx,Steps.refl P _,⟨H.fr.md.retm,H.fr.ds.inv_nil,H.fr.kd,fn,by rw[H.fr.f];exact hfn,y1⟩,by rw[H.fr.f];exact hf,y2,H.rel, .refl _ _ _, .rfl⟩
theorem callA_ok (hmo:P.follows .mixedOrders=true){wf:Nat→Nat→Nat→Bool}{kn:Cl}(hkn:ClOk gt P kn)(n:Nat):∀d,ClOk gt P (callA gt P wf kn n d)
 | 0,f,args,s,v,s',h=>by cases h
 | d+1,f,args,s,v,s',h=>by
  simp only[callA] at h
  split at h
  ·rename_i r hr
   cases h
   exact hkn _ _ _ _ _ hr
  ·split at h
   ·rename_i fr hfr
    refine ⟨(enterA_ok (gt:=gt) hfr).1,fun cx w xs R G A cs=> ?_⟩
    obtain ⟨F',w',x,cx',h1,h2,h3,h4⟩:=runA_ok hmo hkn (callA_ok hmo hkn n d) n h (F:=Frame.enter P f xs .normal) (Fs:=[]) (cx:=cx) (w:=w) ⟨enter_frame hfr G A, .nil,R,G⟩ cs
    exact ⟨.returned x,w',F',⟨x,cx',rfl,h4⟩,h1,h3,h2⟩
   ·cases h
def kn0:Cl:=fun _ _ _=>none
theorem kn0_ok:ClOk gt P kn0:=fun _ _ _ _ _ h=>by cases h
end
end Rf
