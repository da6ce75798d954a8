import Derived.Test.YtlhopiehnaabgaaGreatDoorCodeY
import Derived.Test.YtlhopiehnaabgaaGreatDoorCby
import Derived.Test.YtlhopiehnaabgaaGreatDoorLE
set_option linter.all false
namespace Go.Proofs.YtlhopiehnaabgaaGreatDoor
open Go Rf
set_option maxRecDepth 100000
set_option maxHeartbeats 4000000
def pB (n:Int)(sz j:Nat):UInt8:=u8 (n.fdiv (2^(8* (sz-1-j))))
theorem shP_of {x:Int}{m:Nat}(hm:m<8):binV .shr (.i .i64 x) (.i .i64 (8* (m:Int)))=some (.i .i64 (x.fdiv (2^(8* m)))):=by
 show (if (8* (m:Int))<0 then none else some (V.i .i64 (x.fdiv (2^(min (8* (m:Int)).toNat 64)))))=_
 rw [if_neg (by omega),Nat.min_eq_left (by omega),show(8* (m:Int)).toNat=8* m by omega]
def EPt (w:V)(n i:Int):List V:=(w:: .i .i64 n:: .bad:: .bad:: .bad:: .bad:: .bad:: .i .i64 i::List.replicate 15 .bad)
theorem put_gen (T:Nat→St)(X:Nat→List V)(c:Nat→Cap)(n:Int)(sz:Nat)(hsz:sz≤8)
  (hA:∀j,j<sz→∀(e:List V)(x y:Arg),x.ev e= .pu 1 (X j) (c j)→y.ev e= .pu 1 [bV (pB n sz j)] (.x 1)→aop e (T j) (.app 5 true false 1 1 x y)=some (.pu 1 (X (j+1)) (c (j+1)),T (j+1))):
  Den gt0 Tryz.prog 34 [.pu 1 (X 0) (c 0), .i .i64 n, .i .i64 (sz:Nat)] (T 0) (.pu 1 (X sz) (c sz)) (T sz):=by
 refine Den.hm gnm0 hF34 ?_
 conv =>whnf
 refine kgo ?_;(repeat(first|intro(X:Nat)|intro(z:St)|intro(av:V)|intro(tk:Option Nat)|(intro(K1:Kn _ _ _);(try clear K);rename Kn _ _ _=>K)));conv=>whnf
 rw [show wrapF .i64 (((sz:Nat):Int)-1)=(sz:Int)-1 by rw[wI];omega]
 refine HM.loop gnm0 fun hg=>⟨fun m e z'=>∃(j:Nat),j≤sz∧m=sz-j∧e=EPt (.pu 1 (X j) (c j)) n ((sz:Int)-1-j)∧z'=T j,⟨sz,fg [0,1,7] _,_,WkM.fg hg,0,Nat.zero_le _,rfl,by simp[EPt];rfl,rfl⟩, ?_⟩
 rintro m e z ⟨j,hj,rfl,rfl,rfl⟩
 conv =>whnf
 refine kgo ?_;(repeat(first|intro(X:Nat)|intro(z:St)|intro(av:V)|intro(tk:Option Nat)|(intro(K1:Kn _ _ _);(try clear K);rename Kn _ _ _=>K)));conv=>whnf
 by_cases hlt:j<sz
 ·obtain⟨q,hq⟩:∃q:Nat,sz-1-j=q:=⟨_,rfl⟩
  have hqi:(sz:Int)-1-j=(q:Nat):=by omega
  have hb:bV (pB n sz j)= .i .u8 (wrapF .u8 (n.fdiv (2^(8* q)))):=by rw[pB,hq,bV_u8]
  have hA':=hA j hlt
  rw [hb] at hA'
  rw [hqi,show leZ 0 ((q:Nat):Int)=true by rw[leZ_eq];simp]
  conv =>whnf
  refine kgo ?_;(repeat(first|intro(X:Nat)|intro(z:St)|intro(av:V)|intro(tk:Option Nat)|(intro(K1:Kn _ _ _);(try clear K);rename Kn _ _ _=>K)));conv=>whnf
  rw [show wrapF .i64 (8* ((q:Nat):Int))=8* (q:Int) by rw[wI];omega]
  conv =>pattern (binV _ _ _);change binV .shr (.i .i64 n) (.i .i64 (8* (q:Int)));rw[shP_of (by omega)]
  conv =>whnf
  refine kgo ?_;(repeat(first|intro(X:Nat)|intro(z:St)|intro(av:V)|intro(tk:Option Nat)|(intro(K1:Kn _ _ _);(try clear K);rename Kn _ _ _=>K)));conv=>whnf
  refine ⟨_,_,hA' _ _ _ rfl rfl, ?_⟩
  conv =>whnf
  refine kgo ?_;(repeat(first|intro(X:Nat)|intro(z:St)|intro(av:V)|intro(tk:Option Nat)|(intro(K1:Kn _ _ _);(try clear K);rename Kn _ _ _=>K)));conv=>whnf
  rw [show wrapF .i64 (((q:Nat):Int)-1)=(sz:Int)-1-(j+1:Nat) by rw[wI];omega]
  intro hg'
  exact ⟨sz-(j+1),fg [0,1,7] _,_,by omega,WkM.fg hg',j+1,hlt,rfl,rfl,rfl⟩
 ·obtain rfl:j=sz:=by omega
  rw [show leZ 0 ((j:Int)-1-(j:Nat))=false by rw[leZ_eq];simp;omega]
  conv =>whnf
  refine kgo ?_;(repeat(first|intro(X:Nat)|intro(z:St)|intro(av:V)|intro(tk:Option Nat)|(intro(K1:Kn _ _ _);(try clear K);rename Kn _ _ _=>K)));conv=>whnf
  exact ⟨.refl _,fun hg=>⟨.refl hg, .inl rfl⟩⟩
theorem Up.re {L:List En}{a:En}{F:En→List En}(h:Up L a F)(b:En):Up (F b) b F:=by
 induction h with
 | here=>exact .here
 | there _ ih=>exact .there ih
def pApp (s:St)(v:V)(b:UInt8):Option (V×St):=aop [] s (.app 5 true false 1 1 (.c v) (.c (.pu 1 [bV b] (.x 1))))
def pTW (z:St)(v:V)(f:Nat→UInt8):Nat→V×St
 | 0=>(v,z)
 | j+1=>(pApp (pTW z v f j).2 (pTW z v f j).1 (f j)).getD (pTW z v f j)
theorem pTW_kn {s z:St}{L:List En}{v:V}{xs:List UInt8}{tk:Option Nat}{F:En→List En}(K:Kn s z L)(hU:Up L (.ac 1 v (xs.map bV) tk) F)(f:Nat→UInt8)(hl:xs.length≤900000):∀j,j≤8→
  (∃tk',Kn s (pTW z v f j).2 (F (.ac 1 (pTW z v f j).1 ((xs++(List.range j).map f).map bV) tk')))∧∀i,i<j→pApp (pTW z v f i).2 (pTW z v f i).1 (f i)=some (pTW z v f (i+1))
 | 0,_=>⟨⟨tk,by
   have :F (.ac 1 v (xs.map bV) tk)=L:=by obtain⟨A,B,rfl,hF⟩:=hU.eq;exact hF _
   simpa [pTW,this] using K⟩,fun i hi=>by omega⟩
 | j+1,hj=>by
  obtain ⟨⟨t1,K1⟩,h1⟩:=pTW_kn K hU f hl j (by omega)
  obtain ⟨v',z',t2,ha,K2⟩:=K1.app (e:=[]) (x:= .c (pTW z v f j).1) (y:= .c (.pu 1 [bV (f j)] (.x 1))) (t:=5) (bytes:=1) (ag:=false) (ys:=[bV (f j)]) (n:=1) (cs:=[bV (f j)]) (Up.re hU _) rfl rfl rfl rfl (room_of (by simp;omega) (by decide))
  have hp:pApp (pTW z v f j).2 (pTW z v f j).1 (f j)=some (v',z'):=ha
  have hs:pTW z v f (j+1)=(v',z'):=by rw[pTW,hp];rfl
  refine ⟨⟨t2, ?_⟩,fun i hi=> ?_⟩
  ·rw[hs]
   refine K2.cast ?_
   rw [List.range_succ];simp
  ·by_cases e:i=j
   ·subst e;rw[hp,hs]
   ·exact h1 i (by omega)
theorem put_kn {s z : St} {L : List En} {v : V} {xs : List UInt8} {tk : Option Nat} {F : En → List En} (K : Kn s z L) (hU : Up L (.ac 1 v (xs.map bV) tk) F) (n : Int) (sz : Nat) (hsz : sz ≤ 8) (hx : xs ≠ []) (hl : xs.length ≤ 900000) :
    ∃ c z' tk', Den gt0 Tryz.prog 34 [v, .i .i64 n, .i .i64 (sz : Nat)] z (.pu 1 ((xs ++ (List.range sz).map (pB n sz)).map bV) c) z' ∧ Kn s z' (F (.ac 1 (.pu 1 ((xs ++ (List.range sz).map (pB n sz)).map bV) c) ((xs ++ (List.range sz).map (pB n sz)).map bV) tk')) := by
  obtain ⟨⟨tk', K'⟩, hA⟩ := pTW_kn K hU (pB n sz) hl sz hsz
  have hpu : ∀ j, j ≤ sz → ∃ c, (pTW z v (pB n sz) j).1 = .pu 1 ((xs ++ (List.range j).map (pB n sz)).map bV) c := fun j hj => by
    obtain ⟨⟨t1, K1⟩, -⟩ := pTW_kn K hU (pB n sz) hl j (by omega)
    have h := (K1.at (Up.re hU _).ke).1
    cases t1 with
    | none =>
      rcases h with ⟨-, h⟩ | h
      · simp [hx] at h
      · exact ⟨_, h⟩
    | some k => exact ⟨_, h.1⟩
  have hc : ∃ c : Nat → Cap, ∀ j, j ≤ sz → (pTW z v (pB n sz) j).1 = .pu 1 ((xs ++ (List.range j).map (pB n sz)).map bV) (c j) := ⟨fun j => if h : j ≤ sz then (hpu j h).choose else .u, fun j h => by simp only [dif_pos h]; exact (hpu j h).choose_spec⟩
  obtain ⟨c, hc⟩ := hc
  refine ⟨c sz, _, tk', ?_, hc sz (Nat.le_refl _) ▸ K'⟩
  have := put_gen (fun j => (pTW z v (pB n sz) j).2) (fun j => (xs ++ (List.range j).map (pB n sz)).map bV) c n sz hsz fun j hj e x y h1 h2 => by
    have h3 := hA j hj
    rw [← hc j (by omega)] at h1
    rw [← hc (j + 1) (by omega)]
    rw [← h3, pApp]
    simp only [aop, h1, h2]
    rfl
  rw [← hc 0 (Nat.zero_le _)] at this
  exact this
theorem pB8 (n:Int):(List.range 8).map (pB n 8)=enc8 n:=by
 rw [←shB_all]
 rfl
theorem pB1 (n:Int):(List.range 1).map (pB n 1)=[u8 n]:=by
 simp [pB,Int.fdiv_one]
end Go.Proofs.YtlhopiehnaabgaaGreatDoor
set_option linter.all false
namespace Go.Proofs.YtlhopiehnaabgaaGreatDoor
open Go Rf
set_option maxRecDepth 100000
set_option maxHeartbeats 4000000
theorem clone_ns (s:St):Den gt0 Tryz.prog 33 [.ns] s .ns s:=by
 refine Den.hm gnm0 hF33 ?_
 conv =>whnf
 refine kgo ?_;(repeat(first|intro(X:Nat)|intro(z:St)|intro(av:V)|intro(tk:Option Nat)|(intro(K1:Kn _ _ _);(try clear K);rename Kn _ _ _=>K)));conv=>whnf
 exact ⟨.refl _,fun hg=>⟨.refl hg, .inl rfl⟩⟩
theorem clone_z (s:St):Den gt0 Tryz.prog 33 [.pu 1 [] .z] s (.pu 1 [] (.x 0)) s:=by
 refine Den.hm gnm0 hF33 ?_
 conv =>whnf
 refine kgo ?_;(repeat(first|intro(X:Nat)|intro(z:St)|intro(av:V)|intro(tk:Option Nat)|(intro(K1:Kn _ _ _);(try clear K);rename Kn _ _ _=>K)));conv=>whnf
 refine HO.opA (v:= .pu 1 [] (.x 0)) (s1:=s) rfl ?_
 conv =>whnf
 refine kgo ?_;(repeat(first|intro(X:Nat)|intro(z:St)|intro(av:V)|intro(tk:Option Nat)|(intro(K1:Kn _ _ _);(try clear K);rename Kn _ _ _=>K)));conv=>whnf
 refine ⟨.pu 1 [] (.x 0),s,rfl, ?_⟩
 conv =>whnf
 refine kgo ?_;(repeat(first|intro(X:Nat)|intro(z:St)|intro(av:V)|intro(tk:Option Nat)|(intro(K1:Kn _ _ _);(try clear K);rename Kn _ _ _=>K)));conv=>whnf
 exact ⟨.refl _,fun hg=>⟨.refl hg, .inl rfl⟩⟩
theorem clone_c (s s':St)(x:V)(xs:List V)(c:Cap)(h:aop [] s (.app 2 true false 1 8 (.c (.pu 1 [] (.x 0))) (.c (.pu 1 (x::xs) .u)))=some (.pu 1 (x::xs) c,s')):Den gt0 Tryz.prog 33 [.pu 1 (x::xs) .u] s (.pu 1 (x::xs) c) s':=by
 refine Den.hm gnm0 hF33 ?_
 conv =>whnf
 refine kgo ?_;(repeat(first|intro(X:Nat)|intro(z:St)|intro(av:V)|intro(tk:Option Nat)|(intro(K1:Kn _ _ _);(try clear K);rename Kn _ _ _=>K)));conv=>whnf
 refine HO.opA (v:= .pu 1 [] (.x 0)) (s1:=s) rfl ?_
 conv =>whnf
 refine kgo ?_;(repeat(first|intro(X:Nat)|intro(z:St)|intro(av:V)|intro(tk:Option Nat)|(intro(K1:Kn _ _ _);(try clear K);rename Kn _ _ _=>K)));conv=>whnf
 refine ⟨.pu 1 (x::xs) c,s',h, ?_⟩
 conv =>whnf
 refine kgo ?_;(repeat(first|intro(X:Nat)|intro(z:St)|intro(av:V)|intro(tk:Option Nat)|(intro(K1:Kn _ _ _);(try clear K);rename Kn _ _ _=>K)));conv=>whnf
 exact ⟨.refl _,fun hg=>⟨.refl hg, .inl rfl⟩⟩
theorem clone_kn {s z:St}{L:List En}(K:Kn s z L)(x:Int)(xs:List Int)(hl:xs.length≤900000):∃c z' tk',Den gt0 Tryz.prog 33 [vsV (x::xs)] z (.pu 1 ((x::xs).map iV) c) z'∧Kn s z' (.ac 1 (.pu 1 ((x::xs).map iV) c) ((x::xs).map iV) tk'::L):=by
 obtain ⟨v',z',t2,ha,K2⟩:=(K.accx 1 []).app (e:=[]) (x:= .c (.pu 1 [] (.x 0))) (y:= .c (vsV (x::xs))) (t:=2) (bytes:=8) (ag:=false) (ys:=(x::xs).map iV) (n:=(x::xs).length) (cs:=(((x::xs).map iV).map V.cells).flatten) .here rfl (by simp[srcOf,vsV,Arg.ev]) (by
  have :=chunks_row (ag:=false) (sz:=1) (ys:=(x::xs).map iV) (row_map fun _=>rfl)
  rwa [List.length_map] at this) (by simp) (room_of (by simp;omega) (by decide))
 have hv:∃c,v'= .pu 1 ((x::xs).map iV) c:=by
  have h:=(K2.at .here).1
  cases t2 with
  | none=>
   rcases h with⟨-,h⟩|h
   ·simp at h
   ·exact⟨_,h⟩
  | some k=>exact⟨_,h.1⟩
 obtain ⟨c,rfl⟩:=hv
 exact ⟨c,z',t2,clone_c z z' _ _ c ha,K2⟩
end Go.Proofs.YtlhopiehnaabgaaGreatDoor
