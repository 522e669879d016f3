/- Blocks of numbers; stores: blocks behind others, blocks that are put, rows that lie somewhere; and what it leans on. Condition: none. -/
import Derived.Test.YtdenhmniigikcaaGreatBfsOrd
import Derived.Test.YtdenhmniigikcaaGreatFrz
import Derived.Test.YtdenhmniigikcaaGreatKey
import Derived.Test.YtdenhmniigikcaaGreatN43Word
set_option linter.all false
set_option maxRecDepth 100000
set_option maxHeartbeats 4000000
namespace Ab
abbrev Zb (vs:List Int):ag:=⟨none,vs.map .int,.live⟩
theorem bE:∀(σ:List ag) (i:Nat),ak σ i=σ[i]?
 | [],i=>by simp[ak]
 |x::r,0=>rfl
 |x::r,i+1=>by simp[ak,bE r i]
theorem sE:∀(σ:List ag) (i:Nat) (B:ag),ay σ i B=σ.set i B
 | [],i,B=>by simp[ay]
 |x::r,0,B=>rfl
 |x::r,i+1,B=>by simp[ay,sE r i B]
theorem EE{n:Nat}:∀l:List Int,kM n (l.map .int)=l.map .int
 | []=>rfl
 |x::l=>by simp only[db,kM,jx,EE l]
theorem dz{Q:List ag}{i:Nat}{B:ag}(h:ak Q i=some B):i<Q.length:=by
 rw[bE]at h;exact(cT.1 h).1
theorem gi{Q r:List ag}{i:Nat}{B:ag}(h:ak Q i=some B):ak (Q++r) i=some B:=by
 have:=dz h;rw[bE]at h ⊢;rw[ft this];exact h
theorem iq{Q r:List ag}{B:ag}:ak (Q++B::r) Q.length=some B:=by rw[bE];simp
theorem Jj{Q r:List ag}{A B:ag}:ak (Q++A::B::r) (Q.length+1)=some B:=by rw[bE];simp
theorem akX{Q r:List ag}{A B C:ag}:ak (Q++A::B::C::r) (Q.length+2)=some C:=by rw[bE];simp
theorem bZ{Q:List ag}{i:Nat}{B:ag}:(ay Q i B).length=Q.length:=by rw[sE];simp
theorem cE{Q:List ag}{i:Nat}{B:ag}(h:i<Q.length):ak (ay Q i B) i=some B:=by
 rw[bE,sE,List.getElem?_set,ab rfl,ab h]
theorem aO{Q:List ag}{i j:Nat}{B:ag}(h:i ≠ j):ak (ay Q i B) j=ak Q j:=by
 rw[bE,bE,sE,List.getElem?_set,aa h]
structure akY (σ:List ag) (b:Nat) (EF : Nat->Nat) (l:List (List Int)):Prop where
 tab:ak σ b=some ⟨none,(List.range l.length).map λ(j:Nat)=>AV.sl (EF j) (ix l (j:Int)).length 0 (ix l (j:Int)).length,.live⟩
 row:∀j:Nat,j<l.length->ak σ (EF j)=some (Zb (ix l (j:Int)))
theorem akZ{vars env:List AV}{x:Rf}{z:List AV}{k:Option Nat}{az σ:List ag}{K:List AV->List ag->List ag->Prop}{b u off len:Nat}{B:ag}(hr:rv vars env x = .sl b u off len) (hu:upto σ b u=some B) (hc:0<len/\off+len*aC k<=B.cells.length/\aC B.k=aC k/\z.length=aC k/\B.st.isLive=true):cm L vars (.vi x z k) false env az σ K=K (.aM::env) [] (ay σ b ⟨B.k,putAt B.cells off (eH len z),B.st⟩):=by
 show aP (fC L σ (rv vars env) (.vi x z k)) (λp=>K (p.1::env) [] p.2)=_;simp only[fC,hr,hu];rw[ab hc];rfl
def fV (l:List Int):Nat->List Int
 |0=>[]
 |n+1=>if 0<n/\ix l (n:Int)=ix l ((n:Int)-1)then fV l n else fV l n ++ [ix l (n:Int)]
def hZ (l:List Int):List Int:=fV l l.length
theorem Jk{l:List Int}:∀{n:Nat}{w:Int},n<=l.length->(w∈fV l n↔∃j:Int,0<=j/\j<n/\ix l j=w)
 |0,w,_=>by simp[fV];intro j;omega
 |n+1,w,h=>by
  have ih:=λw=>Jk (l:=l) (n:=n) (w:=w) (by omega)
  unfold fV;split
  ·rename_i he
   rw[ih];constructor
   ·rintro⟨j,j0,j1,e⟩;exact⟨j,j0,by omega,e⟩
   ·rintro⟨j,j0,j1,e⟩
    by_cases hj:j=(n:Int)
    ·subst hj;exact⟨(n:Int)-1,by omega,by omega,by rw[<-he.2];exact e⟩
    ·exact⟨j,j0,by omega,e⟩
  ·rw[eI,ih]
   constructor
   ·rintro(⟨j,j0,j1,e⟩|e)
    ·exact⟨j,j0,by omega,e⟩
    ·simp at e;exact⟨n,by omega,by omega,e.symm⟩
   ·rintro⟨j,j0,j1,e⟩
    by_cases hj:j=(n:Int)
    ·subst hj;right;simp[e]
    ·left;exact⟨j,j0,by omega,e⟩
theorem ak0{l:List Int}{w:Int}:w∈hZ l↔w∈l:=by
 unfold hZ;rw[Jk (bw _)];constructor
 ·rintro⟨j,j0,j1,rfl⟩;exact aZ j0 j1
 ·intro h
  obtain⟨j,hj,e⟩:=fJ.1 h;exact⟨j,by omega,by omega,by rw[aS hj,e]⟩
theorem Sx (l:List Int):∀n,(fV l n).length<=n
 |0=>by simp[fV]
 |n+1=>by
  have:=Sx l n;unfold fV;split
  ·omega
  ·simp;omega
theorem Sy{l:List Int}(hs:l.Pairwise (·<=·)):∀{n:Nat},n<=l.length->(fV l n).Pairwise (·< ·)
 |0,_=>by simp[fV]
 |n+1,h=>by
  have ih:=Sy hs (n:=n) (by omega)
  unfold fV;split
  ·exact ih
  ·rename_i hn
   rw[List.pairwise_append];refine⟨ih,by simp,λa ha b hb=>?_⟩
   simp at hb;subst hb;obtain⟨j,j0,j1,rfl⟩:=(Jk (by omega)).1 ha
   have le:∀i k:Nat,i<=k->k<l.length->ix l (i:Int)<=ix l (k:Int):=λi k h1 h2=>by
    rcases Nat.lt_or_eq_of_le h1 with h1|h1
    ·rw[aS (by omega),aS h2]
     exact rr.1 hs i k (by omega) h2 h1
    ·subst h1;omega
   have a1:=le j.toNat (n-1) (by omega) (by omega)
   have a2:=le (n-1) n (by omega) (by omega)
   rw[show((j.toNat:Nat):Int)=j by omega,show((n-1:Nat):Int)=(n:Int)-1 by omega]at a1
   rw[show((n-1:Nat):Int)=(n:Int)-1 by omega]at a2
   have a3:ix l (n:Int) ≠ ix l ((n:Int)-1):=λe=>hn ⟨by omega,e⟩
   omega
theorem Sz{vs:List Int}(h:fV vs vs.length=vs.take vs.length):hZ vs=vs:=by unfold hZ;rw[h,List.take_length]
theorem SA{vs:List Int}(h:0<vs.length):fV vs 1=vs.take 1:=by
 match vs,h with
 |x::r,_=>rfl
theorem SB{vs:List Int}{k:Int}(k0:1<=k) (h:ix vs k=ix vs (k-1)):fV vs (k+1).toNat=fV vs k.toNat:=by
 rw[show(k+1).toNat=k.toNat+1 by omega]
 conv=>lhs;unfold fV
 rw[ab ⟨by omega,by rw[show((k.toNat:Nat):Int)=k by omega];exact h⟩]
theorem SC{vs:List Int}{k:Int}(k0:1<=k) (h:¬ix vs k=ix vs (k-1)):fV vs (k+1).toNat=fV vs k.toNat ++ [ix vs k]:=by
 rw[show(k+1).toNat=k.toNat+1 by omega]
 conv=>lhs;unfold fV
 rw[aa (λ⟨_,e⟩=>h (by rwa [show((k.toNat:Nat):Int)=k by omega]at e)),show((k.toNat:Nat):Int)=k by omega]
theorem ak1{vs:List Int}{k:Int}(h0:0<=k) (h1:k<vs.length):vs.take (k+1).toNat=vs.take k.toNat ++ [ix vs k]:=by
 rw[show(k+1).toNat=k.toNat+1 by omega,nH,lZ h0 h1];rfl
abbrev ZB (vs:List Int) (r:Nat):ag:=⟨none,vs.map .int++List.replicate r (.int 0),.live⟩
theorem ak2 (vs:List Int) (h0:vs ≠ []) (hl:(vs.length:Int)<=1000000) :
  LX L IK [.sl 0 vs.length 0 vs.length] [Zb vs] (λv τ=>v = .sl 0 vs.length 0 (hZ vs).length/\τ=[ZB (hZ vs) (vs.length-(hZ vs).length)]):=by
 have hn:0<vs.length:=mz.2 h0;refine aim rfl ?_
 by_cases h2:vs.length<2
 ·simp[show(vs.length:Int)<2 by omega]
  have e1:vs.length=1:=by omega
  rw[Sz (by rw[e1];exact SA hn)];simp
 ·simp[show ¬(vs.length:Int)<2 by omega]
  refine bC (λk:Int=>[(1,.int k)]) (λ_=>[Zb vs]) (λk=>1<=k/\k<=vs.length/\fV vs k.toNat=vs.take k.toNat) (λk=>(vs.length-k).toNat) 1 rfl ⟨by omega,by omega,?_⟩ λk ⟨k0,k1,k2⟩=>?_
  ·exact SA hn
  by_cases hk:k<vs.length
  ·simp[-al,hk,show 0<=k by omega,show 0<=k-1 by omega,show k-1<(vs.length:Int)by omega]
   refine⟨by omega,by omega,by omega,λhe=>⟨by omega,?_⟩,λhe=>⟨by omega,ba (k+1) rfl rfl ⟨by omega,by omega,by rw[SC (by omega) he,k2,ak1 (by omega) hk]⟩ (by omega)⟩⟩
   obtain⟨k,rfl⟩:∃k' : Nat,k=k' :=⟨k.toNat,by omega⟩
   have hkn:k<vs.length:=by omega
   rw[kE]at k2 ⊢;have bR:=SB (vs:=vs) k0 he;rw[show((k:Int)+1).toNat=k+1 by omega,kE,k2]at bR
   refine bC (λp:Nat×Nat×List Int=>[(1,.int p.1),(2,.int ((p.2.1:Int)+1))]) (λp=>[Zb p.2.2]) (λp=>k+p.2.1+1<=vs.length/\p.2.2.length=vs.length/\p.1=(fV vs (k+p.2.1+1)).length/\p.1<=k+p.2.1/\p.2.2.take p.1=fV vs (k+p.2.1+1)/\∀j:Nat,k+p.2.1<=j->j<vs.length->ix p.2.2 (j:Int)=ix vs (j:Int))
    (λp=>vs.length-p.2.1) (k,0,vs) (by simp[bT]) ⟨by dsimp only;omega,rfl,by dsimp only;rw[Nat.add_zero,bR];simp;omega,by dsimp only;omega,by dsimp only;rw[Nat.add_zero,bR],λ_ _ _=>rfl⟩ ?_
   rintro⟨q,j,cs⟩ ⟨j1,c1,c2,c3,c4,c5⟩;dsimp only at j1 c1 c2 c3 c4 c5 ⊢
   by_cases hj:k+j+1<vs.length
   ·have e1:=c5 (k+j+1) (by omega) hj
    have e2:=c5 (k+j) (by omega) (by omega)
    have s1:ix vs ((k+j+1:Nat):Int)=ix vs ((k+j:Nat):Int)->fV vs (k+(j+1)+1)=fV vs (k+j+1):=λh=>by
     have:=SB (vs:=vs) (k:=((k+j+1:Nat):Int)) (by omega) (by rw[show((k+j+1:Nat):Int)-1=((k+j:Nat):Int)by omega];exact h)
     rw[show(((k+j+1:Nat):Int)+1).toNat=k+(j+1)+1 by omega,show(((k+j+1:Nat):Int)).toNat=k+j+1 by omega]at this
     exact this
    have s2:¬ix vs ((k+j+1:Nat):Int)=ix vs ((k+j:Nat):Int)->fV vs (k+(j+1)+1)=fV vs (k+j+1) ++ [ix vs ((k+j+1:Nat):Int)]:=λh=>by
     have:=SC (vs:=vs) (k:=((k+j+1:Nat):Int)) (by omega) (by rw[show((k+j+1:Nat):Int)-1=((k+j:Nat):Int)by omega];exact h)
     rw[show(((k+j+1:Nat):Int)+1).toNat=k+(j+1)+1 by omega,show(((k+j+1:Nat):Int)).toNat=k+j+1 by omega]at this
     exact this
    rw[<-e1,<-e2,show((k+j+1:Nat):Int)=(k:Int)+((j:Int)+1)by omega,show((k+j:Nat):Int)=(k:Int)+j by omega]at s1 s2
    simp[-al,c1,show(j:Int)+1<((vs.length-k:Nat):Int)by omega]
    refine⟨by omega,by omega,by omega,by omega,by omega,λh=>⟨by omega,ba (q,j+1,cs) (by simp) rfl ⟨by dsimp only;omega,c1,by dsimp only;rw[s1 h];exact c2,by dsimp only;omega,by dsimp only;rw[s1 h];exact c4,λi a b=>c5 i (by dsimp only at a;omega) b⟩ (by dsimp only;omega)⟩,λh=>⟨by omega,by omega,by omega,by omega,by omega,ba (q+1,j+1,cs.set q (ix cs ((k:Int)+((j:Int)+1)))) (by simp) (by simp[List.map_set]) ⟨by dsimp only;omega,by simp[c1],by dsimp only;rw[s2 h];simp;exact c2,by dsimp only;omega,?_,λi a b=>?_⟩ (by dsimp only;omega)⟩⟩
    ·dsimp only
     rw[s2 h,<-c4,nH,List.take_set_of_le (bw _),List.getElem?_set_self (by omega)]
     rfl
    ·dsimp only at a ⊢
     rw[zD (by omega) (by omega),aa (by omega)]
     exact c5 i (by omega) b
   ·simp[-al,show ¬(j:Int)+1<((vs.length-k:Nat):Int)by omega]
    have hqn:q<=vs.length:=by omega
    have wz:k+j+1=vs.length:=by omega
    rw[wz]at c2 c4;refine⟨c1,hqn,?_⟩;rw[akZ (B:=Zb cs) rfl (by simp[upto,ak,c1]) ⟨by omega,by simp[c1];omega,rfl,rfl,rfl⟩]
    have ji:putAt (cs.map .int) q (eH (vs.length-q) [.int 0])=(hZ vs).map .int++List.replicate (vs.length-q) (.int 0):=by
     unfold putAt;rw[<-List.map_take,c4,jH (by simp[eH,c1];omega)]
     simp[eH,hZ]
    have Gf:(hZ vs).length=q:=by unfold hZ;exact c2.symm
    simp[-List.map_replicate,ji,Gf];omega
  ·simp[hk]
   rw[show k.toNat=vs.length by omega]at k2
   rw[Sz k2];simp
theorem ak3{σ:List ag}{b n:Nat}{zs:List Int}(hu:ak σ b=some (Zb zs)) (hn:n=zs.length) (h0:zs ≠ []) (hl:(zs.length:Int)<=1000000):L zt [.sl b n 0 n] σ=some (.bQ [],ay σ b (Zb (cA zs))):=by
 subst hn;refine ail (N:=0) ?_;have r9 : upto σ b zs.length=some (Zb zs):=by
  unfold upto;rw[hu];simp
 have hp:0<zs.length:=mz.2 h0;simp only[kf,r9];have hb:zs.length<=dE:=by show zs.length<=1073741824;omega
 rw[ab (by simp[eo.isLive,gR,hp];omega)]
 have ht:(((zs.map AV.int).drop 0).take zs.length)=zs.map .int:=by rw[nI,gl (by simp)]
 rw[ht,Ht];have hs:(cA zs).length=zs.length:=(wb zs).length_eq;have ji:putAt (zs.map AV.int) 0 ((cA zs).map .int)=(cA zs).map .int:=by
  unfold putAt;rw[List.take_zero,q7,jH (by simp[hs])];simp
 simp only[ji]
theorem zE{rest:List AV}:∀{xs:List Int},chunk none xs.length (xs.map AV.int++rest)=xs.map .int
 | []=>rfl
 |x::xs=>by
  have e:=zE (rest:=rest) (xs:=xs);simp only[cw,db,kX,chunk,e]
theorem SD{σ:List ag}{b u r:Nat}{xs:List Int}(h:ak σ b=some (ZB xs r)) (hu:u=xs.length+r):view σ false vd (.sl b u 0 xs.length)=some (iL xs):=by
 subst hu;have hu:upto σ b (xs.length+r)=some (ZB xs r):=by
  unfold upto;rw[h];simp
 show view σ false (11+1) _=_;unfold view;simp only[hu,aC,nI,jf,Nat.mul_one];rw[ab (by simp),zE,EA (f:=AV.int) (g:=AV.int) (v:=view σ false 11) λ_ _=>rfl]
theorem ak4 (l:List Int):(hZ l).length<=l.length:=Sx l _
theorem SE{k:Nat}:∀{ls:List (List Int)},(∀r∈ls,r.length<=k)->ls.flatten.length<=ls.length*k
 | [],_=>by simp
 |r::ls,h=>by
  have h1:=SE (k:=k) (ls:=ls) λx hx=>h x (by simp[hx])
  have h2:=h r (by simp)
  simp[fx]at h1 ⊢;omega
attribute [local simp] nR
theorem ak5{A:List AV}{x z:AV}{i k:Nat}(h:A.length=i):putAt (A++List.replicate (k+1) z) i [x]=A ++ [x]++List.replicate k z:=by
 subst h;unfold putAt;rw[List.take_left,List.drop_append,jH (by simp)]
 simp[List.drop_replicate]
theorem Jl (l:List Int) (hl:∀x∈l,0<=x/\x<=255) (hn:l.length<=100000):PC zg [iL l]=some (.str (fe l)):=by
 refine cW (aif rfl ?_);simp[-al];refine⟨by omega,?_⟩
 refine bC (λi:Nat=>[(4,.sl 0 l.length 0 i),(1,.int i)]) (λi=>[⟨none,(l.take i).map (AV.ik 4)++List.replicate (l.length-i) (.ik 4 0),.live⟩]) (λi=>i<=l.length) (λi=>l.length-i) 0 (by simp[bT]) (by omega) ?_
 intro i Zt
 by_cases hi:i<l.length
 ·have tk:=lg hi
  have hx:=hl _ (aZ (l:=l) (n:=(i:Int)) (by omega) (by omega))
  have ma:min i l.length=i:=qX (by omega)
  simp[-al,-List.map_take,hi,hx.1,hx.2,ma];refine⟨by omega,by omega,λh=>absurd h (by omega),λ_=>⟨by omega,by omega,ba (i+1) (by simp) ?_ (by omega) (by omega)⟩⟩
  rw[tk,kY,show l.length-i=(l.length-(i+1))+1 by omega]
  have:=ak5 (A:=(l.take i).map (AV.ik 4)) (z:=.ik 4 0) (x:=.ik 4 (ix l (i:Int))) (k:=l.length-(i+1)) (i:=i) (by simp;omega)
  exact congrArg (λc=>[(⟨none,c,.live⟩:ag)]) this
 ·have ei:i=l.length:=by omega
  subst ei;have hb:=Er (l:=l) hl;have e:(l.map (AV.ik 4)).take l.length=l.map (AV.ik 4):=gl (by simp)
  simp[-al,-List.map_take,e,hb]
def ao.bj (n:ao):List Int:=hZ (cA (n.start::n.call.flatten))
theorem rK{n:ao}{x:Int}:x∈n.bj↔x=n.start\/∃r∈n.call,x∈r:=by
 unfold ao.bj;rw[ak0,(wb _).mem_iff];simp[List.mem_flatten]
theorem ak6{n:ao}:n.bj.Pairwise (·< ·):=Sy (Hy _) (bw _)
theorem ao.Ok.Gg{n:ao}(hn:n.Ok):∀r∈n.call,r.length<=64:=λr hr=>by
 obtain⟨j,hj,e⟩:=fJ.1 hr;have ln:=hn.lens;have:=(hn.row j (by omega) (by omega)).1
 rw[aS hj,e]at this;have:=hn.calls;omega
theorem ak7 (n:ao) (hn:n.Ok):PC Iw [n.av]=some (iL n.bj):=by
 refine cW (ahZ rfl ?_);have ln:=hn.lens;have hb:=SE hn.Gg;have mh:n.call.length<=128:=by have:=hn.gr;omega
 have hle:∀i:Nat,(n.call.take i).flatten.length<=n.call.flatten.length:=λi=>by
  have e:(n.call.take i).flatten++(n.call.drop i).flatten=n.call.flatten:=by rw[<-List.flatten_append,oM]
  rw[<-e];simp
 simp[-al];refine bC (λi:Nat=>[(2,.int i),(5,.sl 0 ((n.call.take i).flatten.length+1) 0 ((n.call.take i).flatten.length+1))]) (λi=>[Zb (n.start::(n.call.take i).flatten)]) (λi=>i<=n.call.length) (λi=>n.call.length-i) 0 (by simp[bT]) (by omega) ?_
 intro i i0
 by_cases hi:i<n.call.length
 ·have t1:(n.call.take (i+1)).flatten=(n.call.take i).flatten++ix n.call (i:Int):=by
   rw[lg hi,List.flatten_append];simp
  have mH:=hle (i+1);have hr:=hn.Gg _ (aZ (l:=n.call) (n:=(i:Int)) (by omega) (by omega))
  rw[t1]at mH;generalize (n.call.take i).flatten=F at *;rw[bu]at mH;simp[-al,-List.length_flatten,hi];refine⟨by omega,λh=>⟨by omega,ba (i+1) (by rw[t1,h];simp) (by rw[t1,h];simp) (by omega) (by omega)⟩,λh=>⟨by omega,ba (i+1) (by rw[t1];simp;omega) (by rw[t1];simp) (by omega) (by omega)⟩⟩
 ·have ei:i=n.call.length:=by omega
  subst ei;rw[List.take_length];have BA:=hle n.call.length;generalize hF:n.call.flatten=F at *;have aqt:n.call.length*64<=128*64:=jR _ mh;have h1:=ak3 (σ:=[Zb (n.start::F)]) (b:=0) (n:=F.length+1) (zs:=n.start::F) rfl (by simp) (by simp) (by simp;omega)
  have h1:L zt [.sl 0 (F.length+1) 0 (F.length+1)] [Zb (n.start::F)]=some (.bQ [],[Zb (cA (n.start::F))]):=h1;have gy:(cA (n.start::F)).length=F.length+1:=by rw[(wb _).length_eq];rfl
  have oD:cA (n.start::F) ≠ []:=λe=>by rw[e]at gy;simp at gy
  obtain⟨v,τ,h2,rfl,rfl⟩:=dS (ak2 (cA (n.start::F)) oD (by omega))
  rw[gy]at h2;have gD:=ak4 (cA (n.start::F));have pH:=SD (σ:=[ZB (hZ (cA (n.start::F))) (F.length+1-(hZ (cA (n.start::F))).length)]) (b:=0) (u:=F.length+1) rfl (by omega)
  simp[-al,-List.map_replicate,h1,h2,pH];unfold ao.bj;rw[hF]
end Ab
namespace Ab
abbrev nh (l:List (List (List (List Int)))):AV:=.aE false (l.map fU)
structure SF where
 n:ao
 plc:List Int
 K:List (List Int)
 IN:List (List Int)
 BL:List (List (List (List Int)))
abbrev SF.av (v:SF):AV:=.bd (.agg [.int v.n.calls,.int v.n.aj,.int v.n.aq,.int v.n.stack,.int v.n.start,bL v.n.accept,cK v.n.call,cK v.n.push,cK v.n.inner,fU v.n.pop,iL v.n.bj,iL v.plc,cK v.K,.p7,cK v.IN,nh v.BL])
def ao.tu (n:ao) (l:List Int):Prop:=∀s∈l,0<=s/\s<(n.accept.length:Int)
theorem zF{σ:List ag}{b n:Nat}{fr:Bool}{out:List Int}(h:ak σ b=some (fv out)) (hn:n=out.length):view σ fr vd (.sl b n 0 n)=some (iL out):=by
 subst hn;exact qL h (by split<;>simp) rfl
theorem ak8 (v:SF) (hn:v.n.Ok) (x i:Int) (hx:0<=x/\x<(v.K.length:Int)) (hi:0<=i/\i<v.n.aj) (hr:v.n.tu (ix v.K x)) (hl:(ix v.K x).length<=1000):LX L Iz [v.av,.int x,.int i] [] (λr τ=>cv τ true r=some (iL ((ix v.K x).map λs=>ix (ix v.n.inner s) i))):=by
 refine ah0 rfl ?_;have ln:=hn.lens;simp[-al,hx.1,hx.2];generalize ix v.K x=l at *;refine bC (λk:Nat=>[(3,.int k),(6,.sl 0 k 0 k)]) (λk=>[fv ((l.take k).map λs=>ix (ix v.n.inner s) i)]) (λk=>k<=l.length) (λk=>l.length-k) 0 (by simp[bT]) (by omega) ?_
 intro k k0
 by_cases hk:k<l.length
 ·have hs:=hr _ (aZ (l:=l) (n:=(k:Int)) (by omega) (by omega))
  have rL:=(hn.row _ hs.1 hs.2).2.2.1;have h1:=bM (show ix l (k:Int)<(v.n.inner.length:Int)by omega)
  have h2:=bM (show i<((ix v.n.inner (ix l (k:Int))).length:Int)by omega)
  have ma:min k l.length=k:=qX (by omega)
  simp[-al,-List.map_take,hk,hs.1,h1,h2,hi.1,ma];exact⟨by split<;>rfl,by omega,by omega,ba (k+1) (by simp) (by rw[lg hk];simp) (by omega) (by omega)⟩
 ·have ek:k=l.length:=by omega
  subst ek;simp[-al];exact zF rfl (by simp)
def ao.qn (n:ao) (plc y:List Int) (c r s:Int):Int:=
 ix (ix (ix n.pop (ix y (ix plc (ix (ix n.call s) c)))) (ix (ix n.push s) c)) r
theorem ak9 (v:SF) (hn:v.n.Ok) (x c y r:Int) (hx:0<=x/\x<(v.K.length:Int)) (hy:0<=y/\y<(v.K.length:Int)) (hc:0<=c/\c<v.n.calls) (AF:0<=r/\r<v.n.aq) (hr:v.n.tu (ix v.K x)) (AM:v.n.tu (ix v.K y)) (hl:(ix v.K x).length<=1000)
  (hp:∀s,0<=s->s<(v.n.accept.length:Int)->ix (ix v.n.call s) c<(v.plc.length:Int)/\0<=ix v.plc (ix (ix v.n.call s) c)/\ix v.plc (ix (ix v.n.call s) c)<((ix v.K y).length:Int)):LX L IL [v.av,.int x,.int c,.int y,.int r] [] (λz τ=>cv τ true z=some (iL ((ix v.K x).map (v.n.qn v.plc (ix v.K y) c r)))):=by
 refine ain rfl ?_;have ln:=hn.lens;simp[-al,hx.1,hx.2];generalize ix v.K x=l at *;refine bC (λk:Nat=>[(5,.int k),(9,.sl 0 k 0 k)]) (λk=>[fv ((l.take k).map (v.n.qn v.plc (ix v.K y) c r))]) (λk=>k<=l.length) (λk=>l.length-k) 0 (by simp[bT]) (by omega) ?_
 intro k k0
 by_cases hk:k<l.length
 ·have hs:=hr _ (aZ (l:=l) (n:=(k:Int)) (by omega) (by omega))
  have tk:=lg hk;have rL:=hn.row _ hs.1 hs.2;have jA:=hp _ hs.1 hs.2;have gD:=hn.call _ _ hs.1 hs.2 hc.1 hc.2;have Lc:=hn.push _ _ hs.1 hs.2 hc.1 hc.2;have ht:=AM _ (aZ jA.2.1 jA.2.2);have I5:=hn.row _ ht.1 ht.2;have pt:=hn.I4 _ _ ht.1 ht.2 Lc.1 Lc.2;have ma:min k l.length=k:=qX (by omega)
  simp[-al,-List.map_take,hk,hs.1,ma];refine⟨hy,by omega,by omega,by omega,by omega,by omega,by omega,by omega,by omega,by omega,by split<;>rfl,by omega,by omega,ba (k+1) (by simp) (by rw[tk];simp[ao.qn]) (by omega) (by omega)⟩
 ·have ek:k=l.length:=by omega
  subst ek;simp[-al];exact zF rfl (by simp)
def qM:Nat->List (List Int)->List (AV×AV)
 |_,[]=>[]
 |i,l::K=>(.str (fe l),.int i)::qM (i+1) K
theorem EG:∀(i:Nat) (K:List (List Int)) (l:List Int),qM i (K ++ [l])=qM i K ++ [(.str (fe l),.int ((i+K.length:Nat):Int))]
 |i,[],l=>by simp[qM]
 |i,k::K,l=>by
  have:=EG (i+1) K l;simp only[kX,qM,this,cw];rw[show i+1+K.length=i+(K.length+1)by omega]
def dA (l:List Int):Prop:=∀x∈l,0<=x/\x<=255
theorem wR{l:List Int}(hl:dA l):∀(i:Nat) (K:List (List Int)),(∀k∈K,dA k)->cH (qM i K) (.str (fe l))=some (if l∈K then some (.int ((i+K.idxOf l:Nat):Int))else none)
 |i,[],_=>rfl
 |i,k::K,h=>by
  have ih:=wR hl (i+1) K λr hr=>h r (by simp[hr])
  simp only[qM,cH,ew]
  by_cases hp:k=l
  ·subst hp;simp[List.idxOf_cons]
  ·have h1:decide (fe l=fe k)=false:=by
    rw[wg];intro hk;exact hp (Es hl (h k (by simp)) hk).symm
   rw[h1];simp only[ih];have h2:¬l=k:=λe=>hp e.symm;have h3:(k==l)=false:=by simpa using hp
   simp[h2,List.idxOf_cons,h3];split
   ·congr 2;omega
   ·rfl
inductive Tg where
 |v|pl|mp|ls|aQ|bl
 |rw(x:Nat)
 |cl (x c:Nat)
 |old (i:Nat)
 deriving DecidableEq
def cQ (b k:Nat):AV:=if k=0 then .ah else .sl b k 0 k
def wI (l:List Int):AV:=.aE (decide (l ≠ [])) (l.map .int)
structure Vd where
 n:ao
 plc:List Int
 K:List (List Int)
 IN:List (List Int)
 BL:List (List (List (List Int)))
abbrev Vd.vcs (D:Vd):SF:=⟨D.n,D.plc,D.K,D.IN,D.BL⟩
def Vd.row (D:Vd) (x:Nat):List (List (List Int)):=ix D.BL (x:Int)
def Vd.bS (D:Vd) (x c:Nat):List (List Int):=ix (D.row x) (c:Int)
def Vd.box (D:Vd) (p:Tg->Nat):ag:=⟨some 16,[.int D.n.calls,.int D.n.aj,.int D.n.aq,.int D.n.stack,.int D.n.start,bL D.n.accept,cK D.n.call,cK D.n.push,cK D.n.inner,fU D.n.pop,iL D.n.bj,.sl (p .pl) D.plc.length 0 D.plc.length,.sl (p .ls) D.K.length 0 D.K.length,.cM (p .mp),cQ (p .aQ) D.IN.length,cQ (p .bl) D.BL.length],.live⟩
def Vd.tW (D:Vd) (p:Tg->Nat):ag:=⟨none,(List.range D.BL.length).map λx=>.sl (p (.rw x)) (D.row x).length 0 (D.row x).length,.live⟩
def Vd.km (D:Vd) (p:Tg->Nat) (x:Nat):ag:=⟨none,(List.range (D.row x).length).map λc=>cQ (p (.cl x c)) (D.bS x c).length,.live⟩
def Vd.cont (D:Vd) (O:Nat->Option ag) (p:Tg->Nat):Tg->Option ag
 |.v=>some (D.box p)
 |.pl=>some (Zb D.plc)
 |.mp=>some ⟨some 0,[],.map (qM 0 D.K)⟩
 |.ls=>some ⟨none,D.K.map iL,.live⟩
 |.aQ=>if D.IN=[]then none else some ⟨none,D.IN.map wI,.live⟩
 |.bl=>if D.BL=[]then none else some (D.tW p)
 |.rw x=>if x<D.BL.length then some (D.km p x)else none
 |.cl x c=>if x<D.BL.length/\c<(D.row x).length/\D.bS x c ≠ []then some ⟨none,(D.bS x c).map wI,.live⟩else none
 |.old i=>O i
structure VS (D:Vd) (O:Nat->Option ag) (p:Tg->Nat) (σ:List ag):Prop where
 has:∀t B,D.cont O p t=some B->ak σ (p t)=some B
 inj:∀t u A B,D.cont O p t=some A->D.cont O p u=some B->p t=p u->t=u
 old:∀i,p (.old i)=i
theorem uM{σ:List ag}{b u:Nat}{B:ag}(h:ak σ b=some B) (hu:B.cells.length=u) (hs:B.st.gw=true):upto σ b u=some B:=by
 unfold upto;rw[h];cases hb:B.st<;>simp_all
theorem VS.ne{D:Vd}{O:Nat->Option ag}{p:Tg->Nat}{σ:List ag}(h:VS D O p σ){t u:Tg}{A B:ag}(ht:D.cont O p t=some A) (hu:D.cont O p u=some B) (hn:t ≠ u):p t ≠ p u:=λe=>hn (h.inj t u A B ht hu e)
theorem VS.lt{D:Vd}{O:Nat->Option ag}{p:Tg->Nat}{σ:List ag}(h:VS D O p σ){t:Tg}{A:ag}(ht:D.cont O p t=some A):p t<σ.length:=dz (h.has t A ht)
theorem VS.tn{D D' : Vd}{O:Nat->Option ag}{p:Tg->Nat}{σ τ:List ag}(h:VS D O p σ) (hu:∀t B,D'.cont O p t=some B->∃A,D.cont O p t=some A) (hb:∀t B,D'.cont O p t=some B->ak τ (p t)=some B):VS D' O p τ:=
 ⟨hb,λt u A B ht r9 e=>by
  obtain⟨A', hA⟩:=hu t A ht;obtain⟨B', hB⟩:=hu u B r9;exact h.inj t u A' B' hA hB e,h.old⟩
def tw (O:Nat->Option ag) (b:Nat) (B:ag):Nat->Option ag:=λi=>if i=b then some B else O i
theorem uN{D:Vd}{O:Nat->Option ag}{p:Tg->Nat}{b:Nat}{B:ag}{t:Tg}(ht:t ≠ .old b):D.cont (tw O b B) p t=D.cont O p t:=by
 cases t<;>try rfl
 rename_i i;show tw O b B i=O i;unfold tw;rw[aa λe=>ht (by rw[e])]
theorem wS{D:Vd}{O:Nat->Option ag}{p:Tg->Nat}{b:Nat}{B:ag}:D.cont (tw O b B) p (.old b)=some B:=ab rfl
theorem VS.push{D:Vd}{O:Nat->Option ag}{p:Tg->Nat}{σ:List ag}(h:VS D O p σ) (B:ag):VS D (tw O σ.length B) p (σ ++ [B]):=by
 refine⟨λt A hA=>?_,λt u A A' hA uO e=>?_,h.old⟩
 ·by_cases ht:t = .old σ.length
  ·subst ht
   rw[wS]at hA;rw[h.old,<-hA];exact iq
  ·rw[uN ht]at hA
   exact gi (h.has t A hA)
 ·by_cases ht:t = .old σ.length
  ·by_cases hu:u = .old σ.length
   ·rw[ht,hu]
   ·rw[uN hu]at uO
    have:=h.lt uO;rw[<-e,ht,h.old]at this;omega
  ·by_cases hu:u = .old σ.length
   ·rw[uN ht]at hA
    have:=h.lt hA;rw[e,hu,h.old]at this;omega
   ·rw[uN ht]at hA
    rw[uN hu]at uO;exact h.inj t u A A' hA uO e
theorem VS.put{D:Vd}{O:Nat->Option ag}{p:Tg->Nat}{σ:List ag}(h:VS D O p σ){b:Nat}{A:ag}(hA:O b=some A) (B:ag):VS D (tw O b B) p (ay σ b B):=by
 have hb:D.cont O p (.old b)=some A:=hA;have aK:=h.lt hb;rw[h.old]at aK;refine⟨λt C hC=>?_,λt u C C' hC xr e=>?_,h.old⟩
 ·by_cases ht:t = .old b
  ·subst ht
   rw[wS]at hC;rw[h.old,<-hC];exact cE aK
  ·rw[uN ht]at hC
   have:=h.ne hb hC (Ne.symm ht);rw[h.old]at this;rw[aO this];exact h.has t C hC
 ·have key:∀t C,D.cont (tw O b B) p t=some C->∃C', D.cont O p t=some C' :=λt C hC=>by
   by_cases ht:t = .old b
   ·subst ht;exact⟨A,hb⟩
   ·rw[uN ht]at hC;exact⟨C,hC⟩
  obtain⟨_,h1⟩:=key t C hC;obtain⟨_,h2⟩:=key u C' xr;exact h.inj t u _ _ h1 h2 e
theorem VS.zG{D:Vd}{O O' : Nat->Option ag}{p:Tg->Nat}{σ:List ag}(h:VS D O p σ) (ho:∀i B,O' i=some B->O i=some B):VS D O' p σ:=by
 have key:∀t B,D.cont O' p t=some B->D.cont O p t=some B:=λt B hB=>by
  cases t<;>try exact hB
  exact ho _ _ hB
 exact⟨λt B hB=>h.has t B (key t B hB),λt u A B hA hB e=>h.inj t u A B (key t A hA) (key u B hB) e,h.old⟩
def Vd.add (D:Vd) (l:List Int):Vd:=if l∈D.K then D else {D with K:=D.K ++ [l]}
theorem SG (D:Vd) (O:Nat->Option ag) (p:Tg->Nat) (σ:List ag) (h:VS D O p σ) (l:List Int) (hl:dA l) (hk:∀k∈D.K,dA k) (hll:l.length<=1000) (Wx:D.K ≠ []) (hK:D.K.length<=100000) :
  LX L wM [.ptr (p .v) 16 0,iL l] σ (λr τ=>r = .int (D.K.idxOf l)/\VS (D.add l) O p τ/\τ.length=σ.length):=by
 refine Qe rfl ?_;have hv:=h.has .v _ rfl;have Nk:=h.has .mp _ rfl;have xE:=h.has .ls _ rfl;have ht:=Jl l hl (by omega)
 have hf:=wR hl 0 D.K hk;have qN:∀x,bg 1 (.str x)=true:=λ_=>rfl;unfold Vd.box at hv
 by_cases hm:l∈D.K
 ·rw[ab hm]at hf
  simp[-al,hv,Nk,xE,ht,hf,qN];rw[Vd.add,ab hm];exact h
 ·rw[aa hm]at hf
  have e1:p .mp ≠ p .v:=h.ne (t:=.mp) (u:=.v) rfl rfl (by simp)
  have e2:p .mp ≠ p .ls:=h.ne (t:=.mp) (u:=.ls) rfl rfl (by simp)
  have e3:p .ls ≠ p .v:=h.ne (t:=.ls) (u:=.v) rfl rfl (by simp)
  have b1:∀(Q:List ag) B,ak (ay Q (p .mp) B) (p .v)=ak Q (p .v):=λQ B=>aO e1;have b2:∀(Q:List ag) B,ak (ay Q (p .mp) B) (p .ls)=ak Q (p .ls):=λQ B=>aO e2;have b3:∀(Q:List ag) B,ak (ay Q (p .ls) B) (p .v)=ak Q (p .v):=λQ B=>aO e3;have hi:D.K.idxOf l=D.K.length:=List.idxOf_eq_length hm;simp[-al,hv,Nk,xE,ht,hf,qN,b1,b2,b3];refine⟨by omega,by omega,?_,by rw[bZ,bZ,bZ]⟩
  rw[Vd.add,aa hm];have hq:∀t,t ≠ .v->t ≠ .ls->t ≠ .mp->Vd.cont {D with K:=D.K ++ [l]} O p t=D.cont O p t:=λt h1 h2 h3=>by
   cases t<;>first|rfl|exact absurd rfl h1|exact absurd rfl h2|exact absurd rfl h3
  refine h.tn (λt B hB=>?_) λt B hB=>?_
  ·by_cases h1:t = .v
   ·subst h1;exact⟨_,rfl⟩
   by_cases h2:t = .ls
   ·subst h2;exact⟨_,rfl⟩
   by_cases h3:t = .mp
   ·subst h3;exact⟨_,rfl⟩
   rw[hq t h1 h2 h3]at hB;exact⟨B,hB⟩
  ·by_cases h1:t = .v
   ·subst h1
    rw[cE (by rw[bZ,bZ];exact h.lt (t:=.v) rfl)]
    rw[<-hB];simp[Vd.cont,Vd.box]
   by_cases h2:t = .ls
   ·subst h2
    rw[aO e3.symm,cE (by rw[bZ];exact h.lt (t:=.ls) rfl),<-hB]
    simp[Vd.cont]
   by_cases h3:t = .mp
   ·subst h3
    rw[aO e1.symm,aO e2.symm,cE (h.lt (t:=.mp) rfl),<-hB];simp[Vd.cont,EG]
   rw[hq t h1 h2 h3]at hB;rw[aO (h.ne (t:=.v) rfl hB (Ne.symm h1)),aO (h.ne (t:=.ls) rfl hB (Ne.symm h2)),aO (h.ne (t:=.mp) rfl hB (Ne.symm h3))];exact h.has t B hB
theorem qo{α β:Type} [Inhabited α]{f:α->β}{l:List α}:(List.range l.length).map (λ(x:Nat)=>f (ix l (x:Int)))=l.map f:=by
 apply mC (by simp)
 intro i h1 h2;simp at h1;simp[aS h1]
theorem qp{α:Type}{f g:α->AV}{σ:List ag}{fr:Bool}{b k n:Nat}{xs:List α}(h:xs ≠ []->ak σ b=some ⟨none,xs.map f,.live⟩) (hn:n=xs.length) (hf:∀x∈xs,view σ fr k (f x)=some (g x)) :
  view σ fr (k+1) (cQ b n)=some (.aE false (xs.map g)):=by
 by_cases hx:xs=[]
 ·subst hx;subst hn;rfl
 ·have:n ≠ 0:=by subst hn;exact λe=>hx (dW e)
  unfold cQ;rw[aa this];exact gu (h hx) rfl hn hf
theorem cF{f:AV->Option AV}{a b:AV}{l m:List AV}(h1:f a=some b) (h2:bV f l=some m):bV f (a::l)=some (b::m):=by
 simp only[bV,h1,h2]
theorem VS.view{D:Vd}{O:Nat->Option ag}{p:Tg->Nat}{σ:List ag}(h:VS D O p σ):Ab.view σ false vd (.ptr (p .v) 16 0)=some D.vcs.av:=by
 have hv:=h.has .v _ rfl;have hu:upto σ (p .v) 16=some (D.box p):=uM hv rfl rfl;show Ab.view σ false (11+1) _=_;unfold Ab.view;simp only[hu];have hp:part (D.box p).cells 0 (D.box p).k=some (.agg (D.box p).cells):=rfl;rw[ab (by rfl),hp]
 have hm:bV (Ab.view σ false 10) (D.box p).cells=some [.int D.n.calls,.int D.n.aj,.int D.n.aq,.int D.n.stack,.int D.n.start,bL D.n.accept,cK D.n.call,cK D.n.push,cK D.n.inner,fU D.n.pop,iL D.n.bj,iL D.plc,cK D.K,.p7,cK D.IN,nh D.BL]:=by
  unfold Vd.box;refine cF rfl (cF rfl (cF rfl (cF rfl (cF rfl (cF rfl (cF rfl (cF rfl (cF rfl (cF rfl (cF rfl (cF ?_ (cF ?_ (cF rfl (cF ?_ (cF ?_ rfl)))))))))))))))
  ·exact gu (k:=9) (h.has .pl _ rfl) rfl rfl λ_ _=>rfl
  ·exact gu (k:=9) (h.has .ls _ rfl) rfl rfl λ_ _=>rfl
  ·exact qp (k:=9) (λhx=>h.has .aQ _ (aa hx)) rfl λ_ _=>rfl
  ·have e:nh D.BL = .aE false ((List.range D.BL.length).map λ(x:Nat)=>fU (D.row x)):=by
    unfold Vd.row;rw[qo (f:=fU)]
   rw[e];refine qp (k:=9) (f:=λx=>.sl (p (.rw x)) (D.row x).length 0 (D.row x).length) (λhx=>h.has .bl _ (aa λe=>hx (by rw[e];rfl))) (by simp) λx hx=>?_
   have bJ :=cy.1 hx;have e:fU (D.row x) = .aE false ((List.range (D.row x).length).map λ(c:Nat)=>cK (D.bS x c)):=by
    unfold Vd.bS;rw[qo (f:=cK)]
   rw[e];refine gu (k:=8) (f:=λc=>cQ (p (.cl x c)) (D.bS x c).length) (h.has (.rw x) _ (ab bJ)) rfl (by simp) λc hc=>?_
   exact qp (k:=7) (λhz=>h.has (.cl x c) _ (ab ⟨bJ, cy.1 hc,hz⟩)) rfl λ_ _=>rfl
 have Wy:Ab.view σ false 11 (.agg (D.box p).cells)=some (.agg [.int D.n.calls,.int D.n.aj,.int D.n.aq,.int D.n.stack,.int D.n.start,bL D.n.accept,cK D.n.call,cK D.n.push,cK D.n.inner,fU D.n.pop,iL D.n.bj,iL D.plc,cK D.K,.p7,cK D.IN,nh D.BL]):=by
  show Ab.view σ false (10+1) _=_;unfold Ab.view;simp only[hm]
 simp only[Wy]
def iu (K:List (List Int)) (l:List Int):List (List Int):=if l∈K then K else K ++ [l]
def aH (K vs:List (List Int)):List (List Int):=vs.foldl iu K
theorem SH{D:Vd}{l:List Int}:D.add l={D with K:=iu D.K l}:=by
 unfold Vd.add iu;split<;>rfl
theorem zH{K vs:List (List Int)}{l:List Int}:aH K (vs ++ [l])=iu (aH K vs) l:=by simp[aH]
theorem Jm (K:List (List Int)) (l:List Int):∃r,iu K l=K++r/\r.length<=1:=by
 unfold iu;split
 ·exact⟨[],by simp,by simp⟩
 ·exact⟨[l],rfl,by simp⟩
theorem wT:∀(vs K:List (List Int)),∃r,aH K vs=K++r/\r.length<=vs.length
 | [],K=>⟨[],by simp[aH],by simp⟩
 |v::vs,K=>by
  obtain⟨r,h1,h2⟩:=Jm K v;obtain⟨r', h3,h4⟩:=wT vs (iu K v);exact⟨r++r', by show aH (iu K v) vs=_;rw[h3,h1,iS],by simp;omega⟩
theorem ala{K:List (List Int)}{l:List Int}:l∈iu K l:=by
 unfold iu;split
 ·assumption
 ·simp
theorem SI{K r:List (List Int)}{l:List Int}(h:l∈K):(K++r).idxOf l=K.idxOf l:=by
 rw[List.idxOf_append,ab h]
theorem SJ{K:List (List Int)}{l m:List Int}(h:l∈K):(iu K m).idxOf l=K.idxOf l:=by
 obtain⟨r,h1,_⟩:=Jm K m;rw[h1,SI h]
theorem alb{K:List (List Int)}{l:List Int}:(iu K l).idxOf l=K.idxOf l:=by
 by_cases h:l∈K
 ·exact SJ h
 ·unfold iu
  rw[aa h,List.idxOf_append,aa h,List.idxOf_eq_length h];simp
theorem tx:∀{vs K:List (List Int)}{l:List Int},l∈vs\/l∈K->l∈aH K vs
 | [],K,l,h=>by simpa[aH]using h
 |v::vs,K,l,h=>by
  show l∈aH (iu K v) vs;rcases h with h|h
  ·rcases cB.1 h with rfl|h
   ·exact tx (.inr ala)
   ·exact tx (.inl h)
  ·obtain⟨r,h1,_⟩:=Jm K v
   exact tx (.inr (by rw[h1];simp[h]))
theorem EH{P:List Int->Prop}:∀{vs K:List (List Int)},(∀k∈K,P k)->(∀v∈vs,P v)->∀k∈aH K vs,P k
 | [],K,h,_=>h
 |v::vs,K,h,h2=>by
  refine EH (vs:=vs) (K:=iu K v) (λk hk=>?_) λw hw=>h2 w (by simp[hw])
  unfold iu at hk;split at hk
  ·exact h k hk
  ·rcases eI.1 hk with hk|hk
   ·exact h k hk
   ·simp at hk;subst hk;exact h2 k (by simp)
def idxs (K vs:List (List Int)):List Int:=vs.map λl=>((K.idxOf l:Nat):Int)
theorem EI{K vs:List (List Int)}{l:List Int}:idxs (aH K (vs ++ [l])) (vs ++ [l])=idxs (aH K vs) vs ++ [(((aH K vs).idxOf l:Nat):Int)]:=by
 unfold idxs;rw[kY,zH]
 congr 1
 ·exact gf λm hm=>by rw[SJ (tx (.inl hm))]
 ·simp[alb]
theorem SK{σ:List ag}:∀(ws:List Int) (acc:List Nat),(ws.map AV.int).foldl (λacc y=>reach σ 11 y acc) acc=acc
 | [],_=>rfl
 |w::ws,acc=>by simp only[db,oA];exact SK ws acc
theorem SM{b:Nat}{B:ag}:∀{σ:List ag}{n:Nat},ak σ b=some B->bI (λc=>[n+b].contains c) n σ=ay σ b ⟨B.k,B.cells,.dead⟩
 | [],_,h=>by simp[ak]at h
 |A::σ,n,h=>by
  have nob:∀(τ:List ag) (m:Nat),n+b<m->bI (λc=>[n+b].contains c) m τ=τ:=by
   intro τ
   induction τ with
   |nil=>intro m _;rfl
   |cons C τ ih=>
    intro m hm;simp only[bI];rw[ih (m+1) (by omega)]
    rw[aa (by simp;omega)]
  cases b with
  |zero=>
   have hA:A=B:=by simpa[ak]using h
   subst hA;simp only[bI,ay];rw[nob σ (n+1) (by omega)]
   simp
  |succ b=>
   have hb:ak σ b=some B:=h;have:=SM (n:=n+1) hb;simp only[bI,ay];rw[show n+(b+1)=n+1+b by omega,this]
   rw[aa (by simp;omega)]
theorem zI{vars:List AV}{fl:Option (Nat×AV)}{σ:List ag}{k b n:Nat}{l:List Int}{Q:Ex->St->Prop}(hb:ak σ b=some (fv l)) (hn:nth vars k = .sl b n 0 n) (hl:n=l.length) (h:Q .fm ⟨eT vars k (.aE (decide (l ≠ [])) (l.map .int)),fl,ay σ b ⟨none,l.map .int,.dead⟩⟩):W L (.lu k) ⟨vars,fl,σ⟩ Q:=by
 have hr:reach σ vd (.sl b n 0 n) []=[b]:=by
  show reach σ (11+1) (.sl b n 0 n) []=[b];unfold reach;simp only[List.contains_nil,eE,eG,hb];exact SK l [b]
 have hd:=SM (n:=0) hb;rw[jf]at hd;have hv:view (bI (λc=>!([b]:List Nat).contains c) 0 σ) false vd (.sl b n 0 n)=some (iL l):=by
  refine zF ?_ hl;rw[nM,hb];simp
 have hs:gU σ (.sl b n 0 n)=decide (l ≠ []):=by
  have:upto σ b n=some (fv l):=by
   refine uM hb (by simp[hl]) ?_
   show eo.gw (if l=[]then .jN else .live)=true
   split<;>rfl
  simp only[gU,this]
  by_cases h:l=[]<;>simp[h]
 refine⟨0,.fm,_,?_,h⟩;simp only[exec,hn,hr,hv,hs,hd]
 by_cases h:l=[]
 ·subst h;simp;rfl
 ·simp[h]
end Ab
