/- Comparisons, sorted words, in memory; and what it leans on. Condition: none. -/
import Derived.Test.YtdenhmniigikcaaGreatBfsOrd
import Derived.Test.YtdenhmniigikcaaGreatN44J
import Derived.Test.YtdenhmniigikcaaGreatCan
set_option linter.all false
set_option maxRecDepth 100000
set_option maxHeartbeats 4000000
namespace Ab
def cI (x y:Int):Int:=if x<y then -1 else if y<x then 1 else 0
theorem alq (x:Int):PC Eg [.int x]=some (.bool false):=by
 refine cW (aiq rfl ?_);simp
theorem S4 (x y:Int):PC Ec [.int x,.int y]=some (.int (cI x y)):=by
 refine cW (ah7 rfl ?_);simp[alq];refine⟨λh=>by simp[cI,h],λh=>⟨λk=>?_,λk=>?_⟩⟩
 ·simp[cI,k];omega
 ·simp[cI];omega
theorem alr (x y:Int):PC ID [.aE false [.int x,.int y]]=some (.int (if x=0 then y else x)):=by
 refine cW (ah6 rfl ?_);have e:(.aE false [.int x,.int y]:AV)=iL [x,y]:=rfl;rw[e];simp only[iL];generalize hl:[x,y]=l;have hlen:l.length=2:=by rw[<-hl];rfl
 simp[hlen];refine bC (λi:Int=>[(1,.int i)]) (λ_=>[]) (λi=>0<=i/\i<=2/\∀j,0<=j->j<i->ix l j=0) (λi=>(2-i).toNat) 0 rfl ⟨by omega,by omega,zx⟩ λi ⟨i0,i1,i2⟩=>?_
 have e0:ix l 0=x:=by rw[<-hl];rfl
 have e1:ix l 1=y:=by rw[<-hl];rfl
 by_cases hi:i<2
 ·simp[-al,hi,i0,hlen]
  refine⟨λh=>⟨by omega,ba (i+1) rfl rfl ⟨by omega,by omega,rI h i2⟩ (by omega)⟩,λh=>?_⟩
  by_cases e:i=0
  ·subst e;rw[e0]at h ⊢;simp[h]
  ·have:i=1:=by omega
   subst this;have:=i2 0 (by omega) (by omega)
   rw[e0]at this;rw[e1];simp[this]
 ·have h0:=i2 0 (by omega) (by omega)
  have h1:=i2 1 (by omega) (by omega)
  rw[e0]at h0;rw[e1]at h1;simp[hi,h0,h1]
theorem als{a b:List Int}{i:Int}(h0:0<=i) (h1:i<a.length) (h2:i<b.length):cP (a.drop i.toNat) (b.drop i.toNat)=if cI (ix a i) (ix b i)=0 then cP (a.drop (i+1).toNat) (b.drop (i+1).toNat)else cI (ix a i) (ix b i):=by
 rw[B3 h0 h1,B3 h0 h2];unfold cI;simp only[cP];split
 ·simp
 ·split<;>simp
theorem alu (a b:List Int) (ha:(a.length:Int)<=9223372036854775807) (hb:(b.length:Int)<=9223372036854775807):PC IE [iL a,iL b]=some (.int (cP a b)):=by
 refine cW (ah8 rfl ?_);simp;refine bC (λi:Int=>[(2,.int i)]) (λ_=>[]) (λi=>0<=i/\i<=a.length/\i<=b.length/\cP (a.drop i.toNat) (b.drop i.toNat)=cP a b) (λi=>(a.length-i).toNat) 0 rfl ⟨by omega,by omega,by omega,rfl⟩ λi ⟨i0,i1,i2,i3⟩=>?_
 by_cases hi:i<a.length
 ·by_cases hj:i<b.length
  ·have e:=als i0 hi hj
   rw[i3]at e;simp[-al,hi,hj,i0,S4,show ¬(b.length:Int)<=i by omega]
   refine⟨λh=>⟨by omega,ba (i+1) rfl rfl ⟨by omega,by omega,by omega,by rw[ab h]at e;exact e.symm⟩ (by omega)⟩,λh=>by rw[aa h]at e;exact e.symm⟩
  ·have e:b.drop i.toNat=[]:=H6 (by omega)
   rw[e,B3 i0 hi]at i3;have i3:(1:Int)=cP a b:=i3;simp[-al,hi,hj,i0,show(b.length:Int)<=i by omega]
   exact i3
 ·have e:a.drop i.toNat=[]:=H6 (by omega)
  rw[e]at i3;simp[hi]
  by_cases hj:i<b.length
  ·rw[B3 i0 hj]at i3
   have i3:(-1:Int)=cP a b:=i3;exact⟨λ_=>i3,λh=>by omega⟩
  ·rw[H6 (by omega)]at i3
   have i3:(0:Int)=cP a b:=i3;exact⟨λh=>by omega,λ_=>i3⟩
theorem EO (a b:List Int) (ha:(a.length:Int)<=9223372036854775807) (hb:(b.length:Int)<=9223372036854775807):PC o9 [iL a,iL b]=some (.int (aV a b)):=by
 refine cW (ahG rfl ?_);simp[S4,alu a b ha hb,alr];unfold aV cI
 (repeat' split)<;>first|rfl|omega
abbrev Gj:=List Int->List Int->Int
section
variable{K:Gj}
def wZ (K:Gj) (x:List Int):List (List Int)->List (List Int)
 | []=>[x]
 |y::r=>if K x y<=0 then x::y::r else y::wZ K x r
def fE (K:Gj):List (List Int)->List (List Int)
 | []=>[]
 |x::r=>wZ K x (fE K r)
theorem S5 (x:List Int):∀l:List (List Int),rk K (iL x) (l.map iL)=(wZ K x l).map iL
 | []=>rfl
 |y::r=>by
  have e:tT K (iL x) (iL y)=decide (K x y<=0):=by
   unfold tT;rw[show cj (iL x)=some x from v8 x,show cj (iL y)=some y from v8 y]
  simp only[db,rk,wZ,e,S5 x r]
  by_cases h:K x y<=0<;>simp[h]
theorem S6:∀l:List (List Int),dZ K (l.map iL)=(fE K l).map iL
 | []=>rfl
 |x::r=>by simp only[db,dZ,fE,S6 r,S5]
theorem S7 (x:List Int):∀l,(wZ K x l).Perm (x::l)
 | []=>.refl _
 |y::r=>by
  unfold wZ;split
  ·exact .refl _
  ·exact((S7 x r).cons y).trans (.swap x y r)
theorem EP:∀l,(fE K l).Perm l
 | []=>.refl _
 |x::r=>(S7 x _).trans ((EP r).cons x)
def gv (l:List (List Int)):Nat->List (List Int)
 |0=>[]
 |n+1=>if 0<n/\ix l (n:Int)=ix l ((n:Int)-1)then gv l n else gv l n ++ [ix l (n:Int)]
def fN (l:List (List Int)):List (List Int):=gv l l.length
theorem S8 (l:List (List Int)):∀n,(gv l n).length<=n
 |0=>by simp[gv]
 |n+1=>by
  have:=S8 l n;unfold gv;split
  ·omega
  ·simp;omega
theorem S9{l:List (List Int)}:∀{n:Nat}{w:List Int},n<=l.length->(w∈gv l n↔∃j:Int,0<=j/\j<n/\ix l j=w)
 |0,w,_=>by simp[gv];intro j;omega
 |n+1,w,h=>by
  have ih:=λw=>S9 (l:=l) (n:=n) (w:=w) (by omega)
  unfold gv;split
  ·rename_i he
   rw[ih];constructor
   ·rintro⟨j,j0,j1,e⟩;exact⟨j,j0,by omega,e⟩
   ·rintro⟨j,j0,j1,e⟩
    by_cases hj:j=(n:Int)
    ·subst hj;exact⟨(n:Int)-1,by omega,by omega,by rw[<-he.2];exact e⟩
    ·exact⟨j,j0,by omega,e⟩
  ·rw[eI,ih]
   constructor
   ·rintro(⟨j,j0,j1,e⟩|e)
    ·exact⟨j,j0,by omega,e⟩
    ·simp at e;exact⟨n,by omega,by omega,e.symm⟩
   ·rintro⟨j,j0,j1,e⟩
    by_cases hj:j=(n:Int)
    ·subst hj;right;simp[e]
    ·left;exact⟨j,j0,by omega,e⟩
theorem alv{l:List (List Int)}{w:List Int}:w∈fN l↔w∈l:=by
 unfold fN;rw[S9 (bw _)];constructor
 ·rintro⟨j,j0,j1,rfl⟩;exact aZ j0 j1
 ·intro h
  obtain⟨i,hi,rfl⟩:=fJ.1 h;exact⟨i,by omega,by omega,aS hi⟩
abbrev alw (K:Gj) (l:List (List Int)):Prop:=l.Pairwise λa b=>K a b<0
def mK (K:Gj) (l:List (List Int)):List (List Int):=fN (fE K l)
theorem Ta{l:List (List Int)}{w:List Int}:w∈mK K l↔w∈l:=by
 unfold mK;rw[alv,(EP l).mem_iff]
theorem Tb (l:List (List Int)):(fN l).length<=l.length:=S8 l _
theorem ER (l:List (List Int)):(fE K l).length=l.length:=(EP l).length_eq
end
abbrev AR (l:List (List Int)):Prop:=alw aV l
abbrev gz (l:List (List Int)):List (List Int):=mK aV l
theorem alx{l:List (List Int)}{w:List Int}:w∈gz l↔w∈l:=Ta
theorem aly{ce:CE}{g:Nat}{aI d:List AV}(h:agree ce g aI aV d=true) (k:agree ce g aI cP d=true):dZ aV d=dZ cP d:=by
 have hw:j9 d:=λx hx=>by
  obtain⟨u,v,h1,_⟩:=rn h hx hx;exact⟨u,h1⟩
 refine MH ME hw (uh d) ?_;have hs:=Hv dJ hw;refine hs.imp_of_mem fun {x y} hx hy wa=>?_;have bJ :=(uh d).mem_iff.1 hx;have kj :=(uh d).mem_iff.1 hy;obtain⟨u,v,h1,h2,h3⟩:=rn h bJ kj;obtain⟨u', v', k1,k2,k3⟩:=rn k bJ kj;rw[h1]at k1;rw[h2]at k2;injection k1 with k1;injection k2 with k2
 subst k1;subst k2;rw[h3]at k3;have e:aV u v=cP u v:=by simpa using k3
 rw[rm h1 h2]at wa ⊢;omega
structure Tc (f:Nat) (K:Gj):Prop where
 ok:BE K
 run:∀a b:List Int,(a.length:Int)<=1000000->(b.length:Int)<=1000000->PC f [iL a,iL b]=some (.int (K a b))
 one:K=aV\/K=cP
theorem alz:Tc o9 aV:=⟨dJ,λa b ha hb=>EO a b (by omega) (by omega),.inl rfl⟩
section
variable{K:Gj}
abbrev LB (ws:List (List Int)) (k:Nat):ag:=⟨none,ws.map iL++List.replicate k .ah,.live⟩
abbrev Lb (ws:List (List Int)):ag:=⟨none,ws.map iL,.live⟩
abbrev pw (ws:List (List Int)):Prop:=∀w∈ws,(w.length:Int)<=1000000
theorem Td (w:List Int) (h:(w.length:Int)<=1000000):PC uI [iL w]=some (iL w):=by
 first
 |(
  have e:vl (cN G Q 0) [iL w]=some (iL w):=by
   simp only[vl,iL];rw[ab];simp[isScalar]
   try omega
  have:=Iy e;unfold PC xD;rw[this]
  rfl)
 |(
  cases w with
  |nil=>
   have e:fZ (cN G Q 0) [iL []] []=some (.emp,[]):=rfl;have:=Iy e;unfold PC xD;rw[this]
   rfl
  |cons x l=>
   have e:fZ (cN G Q 0) [iL (x::l)] []=some (.sl 0 (x::l).length 0 (x::l).length,[⟨none,(x::l).map .int,.live⟩]):=by
    simp only[fZ,iL,db];rw[ab]
    ·simp
    ·simp[isScalar,dE]
     simp at h;omega
   have:=Iy e;unfold PC xD;rw[this];exact qL rfl rfl rfl)
theorem alA{vars env:List AV}{x:Rf}{z:List AV}{k:Option Nat}{az σ:List ag}{K:List AV->List ag->List ag->Prop}{b u off len:Nat}{B:ag}(hr:rv vars env x = .sl b u off len) (hu:upto σ b u=some B) (hc:0<len/\off+len*aC k<=B.cells.length/\aC B.k=aC k/\z.length=aC k/\B.st.isLive=true):cm L vars (.vi x z k) false env az σ K=K (.aM::env) [] (ay σ b ⟨B.k,putAt B.cells off (eH len z),B.st⟩):=by
 show aP (fC L σ (rv vars env) (.vi x z k)) (λp=>K (p.1::env) [] p.2)=_;simp only[fC,hr,hu];rw[ab hc];rfl
theorem Te{vs:List (List Int)}(h:gv vs vs.length=vs.take vs.length):fN vs=vs:=by unfold fN;rw[h,List.take_length]
theorem Th{vs:List (List Int)}(h:0<vs.length):gv vs 1=vs.take 1:=by
 match vs,h with
 |x::r,_=>rfl
theorem Ti{vs:List (List Int)}{k:Int}(k0:1<=k) (h:ix vs k=ix vs (k-1)):gv vs (k+1).toNat=gv vs k.toNat:=by
 rw[show(k+1).toNat=k.toNat+1 by omega]
 conv=>lhs;unfold gv
 rw[ab ⟨by omega,by rw[show((k.toNat:Nat):Int)=k by omega];exact h⟩]
theorem Tj{vs:List (List Int)}{k:Int}(k0:1<=k) (h:¬ix vs k=ix vs (k-1)):gv vs (k+1).toNat=gv vs k.toNat ++ [ix vs k]:=by
 rw[show(k+1).toNat=k.toNat+1 by omega]
 conv=>lhs;unfold gv
 rw[aa (λ⟨_,e⟩=>h (by rwa [show((k.toNat:Nat):Int)=k by omega]at e)),show((k.toNat:Nat):Int)=k by omega]
theorem alB{vs:List (List Int)}{k:Int}(h0:0<=k) (h1:k<vs.length):vs.take (k+1).toNat=vs.take k.toNat ++ [ix vs k]:=by
 rw[show(k+1).toNat=k.toNat+1 by omega,nH,lZ h0 h1];rfl
theorem alC{ws:List (List Int)}(h:pw ws):pw (fE K ws):=λw hw=>h w ((EP ws).mem_iff.1 hw)
theorem alD (ws:List (List Int)) (h0:ws ≠ []) (hl:(ws.length:Int)<=1000000):L zi [cK ws] []=some (.sl 0 ws.length 0 ws.length,[Lb ws]):=by
 refine Qm (N:=0) ?_;obtain⟨x,l,rfl⟩:∃x l,ws=x::l:=by
  cases ws with
  |nil=>exact absurd rfl h0
  |cons x l=>exact⟨x,l,rfl⟩
 have h1:∀k:List (List Int),(k.map iL).all qE=true:=λk=>by simp[qE]
 have h2:∀k:List (List Int),ax (k.map iL)=true:=λk=>by
  induction k with
  |nil=>rfl
  |cons a r ih=>simp only[db,ax,aN,Bool.true_and];exact ih
 have h3:((x::l).map iL).length<=dE:=by rw[dR];show(x::l).length<=1073741824;omega
 have hw:((x::l).map iL).map fR=(x::l).map iL:=by simp[fR]
 have hc:(((x::l).map iL).all qE&&ax ((x::l).map iL)&&decide (((x::l).map iL).length<=dE))=true:=by
  rw[h1,h2,decide_eq_true h3];rfl
 show gE (cN G Q 0) [.aE false (iL x::l.map iL)] []=_;unfold gE;refine(ab hc).trans ?_;rw[show(iL x::l.map iL)=(x::l).map iL from rfl,hw,dR]
 rfl
theorem Tl{α:Type}{f:α->AV}{rest:List AV}:∀{xs:List α},chunk none xs.length (xs.map f++rest)=xs.map f
 | []=>rfl
 |x::xs=>by
  have e:=Tl (f:=f) (rest:=rest) (xs:=xs);simp only[cw,db,kX,chunk,e]
theorem Tm{σ:List ag}{fr:Bool}{b u r:Nat}{xs:List (List Int)}{st:eo}(h:ak σ b=some ⟨none,xs.map iL++List.replicate r .ah,st⟩) (hs:st.gw=true) (hu:u=xs.length+r):view σ false vd (.sl b u 0 xs.length)=some (cK xs):=by
 subst hu;have hu:upto σ b (xs.length+r)=some ⟨none,xs.map iL++List.replicate r .ah,st⟩:=by
  unfold upto;rw[h];cases st<;>simp at hs ⊢
 show view σ false (11+1) _=_;unfold view;simp only[hu,aC,nI,jf,Nat.mul_one];rw[ab (by simp),Tl,EA (f:=iL) (g:=iL) (v:=view σ false 11) λ_ _=>rfl]
theorem alE{xs:List (List Int)}{r:Nat}{i:Int}(h0:0<=i) (h1:i<xs.length):oP (xs.map iL++List.replicate r AV.ah) i.toNat=some (iL (ix xs i)):=by
 rw[nN,ft (by simp;omega),ie,lZ h0 h1];rfl
theorem alF{xs:List (List Int)}{r:Nat}{i:Int}(h0:0<=i) (h1:i<xs.length):(xs.map iL++List.replicate r AV.ah).set i.toNat (iL (ix xs i))=xs.map iL++List.replicate r AV.ah:=by
 rw[List.set_append,ab (by simp;omega),<-List.map_set]
 congr 2
 have:ix xs i=xs[i.toNat]:=by
  have:=aS (l:=xs) (n:=i.toNat) (by omega)
  rwa [show((i.toNat:Nat):Int)=i by omega]at this
 rw[this];exact List.set_getElem_self _
end
section
variable{f:Nat}{K:Gj}(hF:Tc f K)
include hF
theorem alG (ws:List (List Int)) (h0:ws ≠ []) (hl:(ws.length:Int)<=1000000) (hw:pw ws):L zj [.sl 0 ws.length 0 ws.length,.func f []] [Lb ws]=some (.bQ [],[Lb (fE K ws)]):=by
 have hc:∀x∈ws.map iL,∀y∈ws.map iL,∃u v,cj x=some u/\cj y=some v/\iZ (lim G Q) f (x::y :: [])=some (.int (K u v)):=by
  intro x hx y hy;obtain⟨u,hu,rfl⟩:=cR.1 hx;obtain⟨v,hv,rfl⟩:=cR.1 hy;refine⟨u,v,v8 u,v8 v,?_⟩;have:=hF.run u v (hw u hu) (hw v hv);unfold iZ;rw[ab (by simp)]
  exact this
 obtain⟨N,hN⟩:=Y1 nT hc;refine Qn (N:=N) ?_;have hn:0<ws.length:=mz.2 h0;have hu:upto [Lb ws] 0 ws.length=some (Lb ws):=by simp[upto,ak]
 have fP:(ws.map iL).length<=dE:=by rw[dR];show ws.length<=1073741824;omega
 simp only[lL,hu];have ht:(((ws.map iL).drop 0).take ws.length)=ws.map iL:=by rw[nI,gl (by simp)]
 rw[ht];have fk:((eo.live).isLive&&gR none&&decide (0<ws.length)&&decide (0+ws.length<=(ws.map iL).length)&&decide ((ws.map iL).length<=dE))=true:=by
  simp only[dR]at fP ⊢;simp[hn,eo.isLive,gR]
  try omega
 rw[ab fk];have alH:(if agree (cN G Q N) f [] aV (ws.map iL)=true then some (AV.bQ [],ay [Lb ws] 0 ⟨none,putAt (ws.map iL) 0 (dZ aV (ws.map iL)),.live⟩)else if agree (cN G Q N) f [] cP (ws.map iL)=true then some (AV.bQ [],ay [Lb ws] 0 ⟨none,putAt (ws.map iL) 0 (dZ cP (ws.map iL)),.live⟩)else none)=some (AV.bQ [],ay [Lb ws] 0 ⟨none,putAt (ws.map iL) 0 (dZ K (ws.map iL)),.live⟩):=by
  rcases hF.one with e|e
  ·rw[e]at hN ⊢;rw[ab hN]
  ·rw[e]at hN ⊢
   by_cases h:agree (cN G Q N) f [] aV (ws.map iL)=true
   ·rw[ab h,aly h hN]
   ·rw[aa h,ab hN]
 rw[alH,S6];have hp:putAt (ws.map iL) 0 ((fE K ws).map iL)=(fE K ws).map iL:=by
  unfold putAt;rw[List.take_zero,q7,jH (by simp[ER])];simp
 rw[hp]
theorem To (a b:List Int) (ha:(a.length:Int)<=1000000) (hb:(b.length:Int)<=1000000):PC zk [iL a,iL b,.bd (.func f [])]=some (.bool (decide (a=b))):=by
 refine cW (aiF rfl ?_);have e:=hF.run a b ha hb;simp[e];exact⟨hF.ok.eq a b,λh=>by subst h;exact hF.ok.refl a⟩
theorem alI (vs:List (List Int)) (h0:vs ≠ []) (hl:(vs.length:Int)<=1000000) (hw:pw vs) :
  LX L CD [.sl 0 vs.length 0 vs.length,.func zk [.bd (.func f [])]] [Lb vs] (λv τ=>v = .sl 0 vs.length 0 (fN vs).length/\τ=[LB (fN vs) (vs.length-(fN vs).length)]):=by
 have hn:0<vs.length:=mz.2 h0;refine Qo rfl ?_
 by_cases h2:vs.length<2
 ·simp[show(vs.length:Int)<2 by omega]
  have e1:vs.length=1:=by omega
  rw[Te (by rw[e1];exact Th hn)];simp
 ·simp[show ¬(vs.length:Int)<2 by omega]
  refine bC (λk:Int=>[(2,.int k)]) (λ_=>[Lb vs]) (λk=>1<=k/\k<=vs.length/\gv vs k.toNat=vs.take k.toNat) (λk=>(vs.length-k).toNat) 1 rfl ⟨by omega,by omega,?_⟩ λk ⟨k0,k1,k2⟩=>?_
  ·exact Th hn
  by_cases hk:k<vs.length
  ·have e:=To hF (ix vs k) (ix vs (k-1)) (hw _ (aZ (by omega) hk)) (hw _ (aZ (by omega) (by omega)))
   simp[-al,hk,show 0<=k by omega,show 0<=k-1 by omega,show k-1<(vs.length:Int)by omega,e]
   refine⟨by omega,by omega,by omega,λhe=>⟨by omega,?_⟩,λhe=>⟨by omega,ba (k+1) rfl rfl ⟨by omega,by omega,by rw[Tj (by omega) he,k2,alB (by omega) hk]⟩ (by omega)⟩⟩
   obtain⟨k,rfl⟩:∃k' : Nat,k=k' :=⟨k.toNat,by omega⟩
   have hkn:k<vs.length:=by omega
   rw[kE]at k2 ⊢;have bR:=Ti (vs:=vs) k0 he;rw[show((k:Int)+1).toNat=k+1 by omega,kE,k2]at bR
   refine bC (λp:Nat×Nat×List (List Int)=>[(2,.int p.1),(3,.int ((p.2.1:Int)+1))]) (λp=>[Lb p.2.2]) (λp=>k+p.2.1+1<=vs.length/\p.2.2.length=vs.length/\p.1=(gv vs (k+p.2.1+1)).length/\p.1<=k+p.2.1/\p.2.2.take p.1=gv vs (k+p.2.1+1)/\∀j:Nat,k+p.2.1<=j->j<vs.length->ix p.2.2 (j:Int)=ix vs (j:Int))
    (λp=>vs.length-p.2.1) (k,0,vs) (by simp[bT]) ⟨by dsimp only;omega,rfl,by dsimp only;rw[Nat.add_zero,bR];simp;omega,by dsimp only;omega,by dsimp only;rw[Nat.add_zero,bR],λ_ _ _=>rfl⟩ ?_
   rintro⟨q,j,cs⟩ ⟨j1,c1,c2,c3,c4,c5⟩;dsimp only at j1 c1 c2 c3 c4 c5 ⊢
   by_cases hj:k+j+1<vs.length
   ·have e1:=c5 (k+j+1) (by omega) hj
    have e2:=c5 (k+j) (by omega) (by omega)
    have e:=To hF (ix vs ((k+j+1:Nat):Int)) (ix vs ((k+j:Nat):Int)) (hw _ (aZ (by omega) (by omega))) (hw _ (aZ (by omega) (by omega)))
    rw[<-e1,<-e2,show((k+j+1:Nat):Int)=(k:Int)+((j:Int)+1)by omega,show((k+j:Nat):Int)=(k:Int)+j by omega]at e
    simp[-al,c1,show(j:Int)+1<((vs.length-k:Nat):Int)by omega,e]
    have s1:ix vs ((k+j+1:Nat):Int)=ix vs ((k+j:Nat):Int)->gv vs (k+(j+1)+1)=gv vs (k+j+1):=λh=>by
     have:=Ti (vs:=vs) (k:=((k+j+1:Nat):Int)) (by omega) (by rw[show((k+j+1:Nat):Int)-1=((k+j:Nat):Int)by omega];exact h)
     rw[show(((k+j+1:Nat):Int)+1).toNat=k+(j+1)+1 by omega,show(((k+j+1:Nat):Int)).toNat=k+j+1 by omega]at this
     exact this
    have s2:¬ix vs ((k+j+1:Nat):Int)=ix vs ((k+j:Nat):Int)->gv vs (k+(j+1)+1)=gv vs (k+j+1) ++ [ix vs ((k+j+1:Nat):Int)]:=λh=>by
     have:=Tj (vs:=vs) (k:=((k+j+1:Nat):Int)) (by omega) (by rw[show((k+j+1:Nat):Int)-1=((k+j:Nat):Int)by omega];exact h)
     rw[show(((k+j+1:Nat):Int)+1).toNat=k+(j+1)+1 by omega,show(((k+j+1:Nat):Int)).toNat=k+j+1 by omega]at this
     exact this
    rw[<-e1,<-e2,show((k+j+1:Nat):Int)=(k:Int)+((j:Int)+1)by omega,show((k+j:Nat):Int)=(k:Int)+j by omega]at s1 s2
    refine⟨by omega,by omega,by omega,by omega,by omega,λh=>⟨by omega,ba (q,j+1,cs) (by simp) rfl ⟨by dsimp only;omega,c1,by dsimp only;rw[s1 h];exact c2,by dsimp only;omega,by dsimp only;rw[s1 h];exact c4,λi a b=>c5 i (by dsimp only at a;omega) b⟩ (by dsimp only;omega)⟩,λh=>⟨by omega,by omega,by omega,by omega,by omega,ba (q+1,j+1,cs.set q (ix cs ((k:Int)+((j:Int)+1)))) (by simp) (by simp[List.map_set]) ⟨by dsimp only;omega,by simp[c1],by dsimp only;rw[s2 h];simp;exact c2,by dsimp only;omega,?_,λi a b=>?_⟩ (by dsimp only;omega)⟩⟩
    ·dsimp only
     rw[s2 h,<-c4,nH,List.take_set_of_le (bw _),List.getElem?_set_self (by omega)]
     rfl
    ·dsimp only at a ⊢
     rw[zD (by omega) (by omega),aa (by omega)]
     exact c5 i (by omega) b
   ·simp[-al,show ¬(j:Int)+1<((vs.length-k:Nat):Int)by omega]
    have hqn:q<=vs.length:=by omega
    have wz:k+j+1=vs.length:=by omega
    rw[wz]at c2 c4;refine⟨c1,hqn,?_⟩;rw[alA (B:=Lb cs) rfl (by simp[upto,ak,c1]) ⟨by omega,by simp[c1];omega,rfl,rfl,rfl⟩]
    have ji:putAt (cs.map iL) q (eH (vs.length-q) [.ah])=(fN vs).map iL++List.replicate (vs.length-q) .ah:=by
     unfold putAt;rw[<-List.map_take,c4,jH (by simp[eH,c1];omega)]
     simp[eH,fN]
    have Gf:(fN vs).length=q:=by unfold fN;exact c2.symm
    simp[ji,Gf];omega
  ·simp[hk]
   rw[show k.toNat=vs.length by omega]at k2
   rw[Te k2];simp
theorem alJ:L CD [.aE false [],.func zk [.bd (.func f [])]] []=some (.aE false [],[]):=by
 refine o5 (Qo rfl ?_);simp
theorem alK (ws:List (List Int)) (hl:(ws.length:Int)<=1000000) (hw:pw ws):PC Ik [cK ws,.func f []]=some (cK (mK K ws)):=by
 refine cW (aiD rfl ?_)
 by_cases h0:ws=[]
 ·subst h0
  have e1:L zi [.aE false []] []=some (.aE false [],[]):=Qm (N:=0) rfl;have e2:L zj [.aE false [],.func f []] []=some (.bQ [],[]):=Qn (N:=0) rfl;have e3:=alJ hF;simp[e1,e2,e3,jx];refine bC (λ_:Unit=>[]) (λ_=>[]) (λ_=>True) (λ_=>0) () rfl trivial λ_ _=>?_;simp[mK,fE,fN,gv]
 ·have h1:fE K ws ≠ []:=λe=>h0 (dW (by rw[<-ER (K:=K),e];rfl))
  have hlen:=ER (K:=K) ws;have e1:=alD ws h0 hl;have e2:=alG hF ws h0 hl hw;obtain⟨_,_,e3,rfl,rfl⟩:=dS (alI hF (fE K ws) h1 (by omega) (alC hw))
  rw[hlen]at e3;have vg:kM 0 (ws.map iL)=ws.map iL:=by
   have:∀k:List (List Int),kM 0 (k.map iL)=k.map iL:=λk=>by
    induction k with
    |nil=>rfl
    |cons a r ih=>simp only[db,kM,jx,ih]
   exact this ws
  simp[e1,e2,e3,jx,gM,vg];have hk:=Tb (fE K ws);rw[hlen]at hk;have fA:pw (fN (fE K ws)):=λw h=>hw w (Ta.1 h);show W L Qa.loop _ _;have hu:mK K ws=fN (fE K ws):=rfl;rw[hu];generalize fN (fE K ws)=cs at *;have hv:=Tm (σ:=[LB cs (ws.length-cs.length)]) (fr:=false) (b:=0) (u:=ws.length) (xs:=cs) (r:=ws.length-cs.length) (st:=.live) rfl (by simp) (by omega)
  refine bC (λi:Int=>[(4,.int i)]) (λ_=>[LB cs (ws.length-cs.length)]) (λi=>0<=i/\i<=cs.length) (λi=>(cs.length-i).toNat) 0 rfl (by omega) λi ⟨i0,i1⟩=>?_
  by_cases hi:i<cs.length
  ·have e4:=Td (ix cs i) (fA _ (aZ i0 hi))
   have sg:=alE (xs:=cs) (r:=ws.length-cs.length) i0 hi;have eQ:=alF (xs:=cs) (r:=ws.length-cs.length) i0 hi;simp[-al,-List.map_append,hi,i0,hk,sg,e4,-PI,↓akT,eQ];exact⟨by omega,by omega,ba (i+1) (by simp) rfl (by omega) (by omega)⟩
  ·simp[hi,hv]
end
theorem Tp (ws:List (List Int)) (hl:(ws.length:Int)<=1000000) (hw:pw ws):PC Cs [cK ws]=some (cK (gz ws)):=by
 refine cW (aiA rfl ?_);simp[alK alz ws hl hw]
structure AU (n:ao) (plc:List Int):Prop where
 len:plc.length=n.accept.length
 EF : ∀i:Nat,i<n.bj.length->ix plc (ix n.bj (i:Int))=i
theorem uT{n:ao}(hn:n.Ok):n.tu n.bj:=λs hs=>by
 rcases rK.1 hs with rfl|⟨r,hr,hx⟩
 ·exact hn.start
 ·obtain⟨j,hj,e⟩:=fJ.1 hr
  obtain⟨c,hc,e2⟩:=fJ.1 hx;have ln:=hn.lens;have h1:=(hn.row j (by omega) (by omega)).1
  have h2:=hn.call j c (by omega) (by omega) (by omega) (by rw[aS hj,e]at h1;omega)
  rw[aS hj,e,aS hc,e2]at h2;exact h2
theorem ES{n:ao}:n.bj.Nodup:=List.Pairwise.imp (λh=>by omega) ak6
theorem Jw{n:ao}(hn:n.Ok):1<=n.bj.length/\n.bj.length<=128:=by
 have h1:=uT hn;have h2:=tq n.accept.length ES h1;have h3:n.start∈n.bj:=rK.2 (.inl rfl);have h4:=List.length_pos_of_mem h3;have h5:=hn.gr;omega
def Gk (n:ao) (plc:List Int):List ag:=[Zb plc,⟨some 0,[],.map [(.str (fe n.bj),.int 0)]⟩,⟨some 16,[.int n.calls,.int n.aj,.int n.aq,.int n.stack,.int n.start,bL n.accept,cK n.call,cK n.push,cK n.inner,fU n.pop,iL n.bj,.sl 0 plc.length 0 plc.length,.sl 3 1 0 1,.cM 1,.ah,.ah],.live⟩,⟨none,[iL n.bj],.live⟩]
theorem alL (n:ao) (hn:n.Ok) (plc:List Int):L wM [.ptr 2 16 0,iL n.bj] [Zb plc,⟨some 0,[],.map []⟩,⟨some 16,[.int n.calls,.int n.aj,.int n.aq,.int n.stack,.int n.start,bL n.accept,cK n.call,cK n.push,cK n.inner,fU n.pop,iL n.bj,.sl 0 plc.length 0 plc.length,.ah,.cM 1,.ah,.ah],.live⟩]=some (.int 0,Gk n plc):=by
 refine o5 (Qe rfl ?_);have hl:=Jw hn;have ht:=Jl n.bj (zJ hn (uT hn)) (by omega)
 have qN:∀x,bg 1 (.str x)=true:=λ_=>rfl;simp[-al,ht,cH,qN]
 rfl
theorem alM (n:ao) (hn:n.Ok):LX L Ip [n.av] [] (λr τ=>∃plc,AU n plc/\r = .ptr 2 16 0/\τ=Gk n plc):=by
 refine ahC rfl ?_;have he:=ak7 n hn;have hl:=Jw hn;have hr:=uT hn;have bR:=hn.gr;have gD:=Td n.bj (by omega)
 have ET:=alL n hn;simp[-al,-List.map_replicate,he];refine⟨by omega,rfl,?_⟩
 refine bC (λq:Nat×List Int=>[(3,.int q.1)]) (λq=>[Zb q.2,⟨some 0,[],.map []⟩,⟨some 16,[.int n.calls,.int n.aj,.int n.aq,.int n.stack,.int n.start,bL n.accept,cK n.call,cK n.push,cK n.inner,fU n.pop,iL n.bj,.sl 0 n.accept.length 0 n.accept.length,.ah,.cM 1,.ah,.ah],.live⟩])
  (λq=>q.1<=n.bj.length/\q.2.length=n.accept.length/\∀j:Nat,j<q.1->ix q.2 (ix n.bj (j:Int))=j) (λq=>n.bj.length-q.1) (0,List.replicate n.accept.length 0) (by simp[bT,AV.cells]) ⟨by simp,by simp,λj h=>by dsimp only at h;omega⟩ ?_
 rintro⟨k,pl⟩ ⟨k0,k1,k2⟩;dsimp only at k0 k1 k2 ⊢
 by_cases hk:k<n.bj.length
 ·have hs:=hr _ (aZ (l:=n.bj) (n:=(k:Int)) (by omega) (by omega))
  have r7:=bM (show ix n.bj (k:Int)<(pl.length:Int)by omega)
  have xz:=bM (show ix n.bj (k:Int)<(n.accept.length:Int)by omega)
  simp[-al,hk,hs.1,r7,xz,k1];refine⟨by omega,ba (k+1,pl.set (ix n.bj (k:Int)).toNat k) (by simp) (by simp[List.map_set]) ⟨by dsimp only;omega,by simp[k1],λj hj=>?_⟩ (by dsimp only;omega)⟩
  dsimp only at hj ⊢;have Lj:=hr _ (aZ (l:=n.bj) (n:=(j:Int)) (by omega) (by omega))
  rw[zD Lj.1 (by omega)]
  by_cases e:j=k
  ·subst e;rw[ab (by omega)]
  ·rw[aa,k2 j (by omega)]
   intro h;rw[aS (by omega),aS (by omega)]at h
   have h' : n.bj[j]=n.bj[k]:=by
    have:=hs.1;rw[aS (by omega)]at this
    omega
   exact e ((List.getElem_inj ES).1 h')
 ·have ek:k=n.bj.length:=by omega
  subst ek;have aqu : PC uI [.aE false (n.bj.map .int)]=some (iL n.bj):=gD;have ET:=ET pl;rw[k1]at ET;simp[-al,gD,ET];exact⟨pl,⟨k1,k2⟩,rfl⟩
def om (n:ao) (plc:List Int):Vd:=⟨n,plc,[n.bj],[],[]⟩
theorem alN{n:ao}(hn:n.Ok){plc:List Int}(hp:AU n plc):tz (om n plc):=by
 have hl:=Jw hn;refine⟨hn,λk hk=>?_,hl.2,λs c s0 s1 c0 c1=>?_⟩
 ·have:k=n.bj:=by simpa[om]using hk
  subst this;exact⟨uT hn,rfl⟩
 ·have hm:ix (ix n.call s) c∈n.bj:=by
   have rL:=(hn.row s s0 s1).1;have ln:=hn.lens;exact rK.2 (.inr ⟨_,aZ s0 (show s<(n.call.length:Int)by have:s<(n.accept.length:Int):=s1;omega),aZ c0 (by have:c<n.calls:=c1;omega)⟩)
  have hr:=uT hn _ hm;obtain⟨i,hi,e⟩:=fJ.1 hm;have:=hp.EF i hi;rw[aS hi,e]at this;have gV:=hp.len;show ix (ix n.call s) c<(plc.length:Int)/\0<=ix plc (ix (ix n.call s) c)/\ix plc (ix (ix n.call s) c)<(n.bj.length:Int);rw[this];omega
def p0:Tg->Nat
 |.pl=>1
 |.mp=>2
 |.v=>3
 |.ls=>4
 |.aQ=>0
 |.bl=>0
 |.rw _=>0
 |.cl _ _=>0
 |.old i=>i
theorem vs0 (n:ao) (plc:List Int) (A:ag):VS (om n plc) (λi=>if i=0 then some A else none) p0 (A::(Gk n plc).map (gM 1)):=by
 have sn:∀l:List Int,kM 1 (l.map .int)=l.map .int:=EE;refine⟨λt B hB=>?_,λt u X Y hX hY e=>?_,λi=>rfl⟩
 ·cases t with
  |v=>
   have:B=(om n plc).box p0:=by simpa[Vd.cont]using hB.symm
   subst this;simp[Gk,p0,ak,gM,kM,jx,Vd.box,om,cQ]
  |pl=>
   have:B=Zb plc:=by simpa[Vd.cont,om]using hB.symm
   subst this;simp[Gk,p0,ak,gM,sn]
  |mp=>
   have:B=⟨some 0,[],.map (qM 0 [n.bj])⟩:=by simpa[Vd.cont,om]using hB.symm
   subst this;simp[Gk,p0,ak,gM,qM,pJ,Mn,kM,jx]
  |ls=>
   have:B=⟨none,[iL n.bj],.live⟩:=by simpa[Vd.cont,om]using hB.symm
   subst this;simp[Gk,p0,ak,gM,kM,jx]
  |aQ=>simp[Vd.cont,om]at hB
  |bl=>simp[Vd.cont,om]at hB
  |rw x=>simp[Vd.cont,om]at hB
  |cl x c=>simp[Vd.cont,om]at hB
  |old i=>
   have hB:(if i=0 then some A else none)=some B:=hB
   split at hB
   ·rename_i h;subst h;exact hB
   ·simp at hB
 ·have nz:∀i,(om n plc).cont (λi=>if i=0 then some A else none) p0 (.old i)=none\/i=0:=λi=>by
   by_cases h:i=0
   ·exact .inr h
   ·left;simp[Vd.cont,h]
  cases t<;>cases u<;>first
   |rfl
   |(simp[Vd.cont,om]at hX;done)
   |(simp[Vd.cont,om]at hY;done)
   |(simp[p0]at e;done)
   |(simp[p0]at e;subst e;rfl)
   |(rename_i i;rcases nz i with h|h
     ·first|(rw[h]at hX;simp at hX;done)|(rw[h]at hY;simp at hY;done)
     ·subst h;simp[p0]at e)
def AW (k:Int):List Int:=[k%256,(k/256)%256]
def df (l:List Int):List Int:=l.flatMap AW
abbrev bK (bs:List Int):List AV:=bs.map (AV.ik 4)
theorem alO{l:List Int}{a:Int}:df (l ++ [a])=df l ++ [a%256,(a/256)%256]:=by simp[df,AW]
theorem Tq{l m:List Int}:df (l++m)=df l++df m:=by simp[df]
theorem EU:∀l:List Int,(df l).length=2*l.length
 | []=>rfl
 |a::l=>by
  have:=EU l;simp only[df,AW,jD,bu,cw,dD]at this ⊢;omega
abbrev EV (bs:List Int):List ag:=[⟨none,bK bs,.live⟩,⟨none,[.sl 0 bs.length 0 bs.length],.live⟩]
theorem zQ (cls l bs:List Int) (hl:∀y∈l,0<=y/\y<(cls.length:Int)) (hb:bs ≠ []) (hlen:bs.length+2*l.length<=100000000) :
  L Ej [iL l,.ptr 1 1 0,.bd (iL cls)] (EV bs)=some (.bQ [],EV (bs++df (l.map (ix cls)))):=by
 refine o5 (aiy rfl ?_);simp[-al,-List.map_append];refine bC (λk:Nat=>[(3,.int k)]) (λk=>EV (bs++df ((l.take k).map (ix cls)))) (λk=>k<=l.length) (λk=>l.length-k) 0 (by simp[bT,df]) (by omega) ?_
 intro k k0
 by_cases hk:k<l.length
 ·have hs:=hl _ (aZ (l:=l) (n:=(k:Int)) (by omega) (by omega))
  have tk:=lg hk;have Tt:=EU ((l.take k).map (ix cls));have ma:min k l.length=k:=qX (by omega)
  simp only[dR,my,ma]at Tt;have e2:df ((l.take (k+1)).map (ix cls))=df ((l.take k).map (ix cls)) ++ [ix cls (ix l (k:Int))%256,(ix cls (ix l (k:Int))/256)%256]:=by rw[tk,kY,db,List.map_nil,alO]
  have vV:(ix cls (ix l (k:Int))).fdiv 256=ix cls (ix l (k:Int))/256:=Int.fdiv_eq_ediv_of_nonneg _ (by omega)
  generalize df ((l.take k).map (ix cls))=B at *;simp[-al,-List.map_append,hk,hs.1,hs.2];refine⟨by omega,by omega,ba (k+1) (by simp) ?_ (by omega) (by omega)⟩
  rw[<-List.map_take,e2,vV];simp[Nat.add_assoc]
 ·have ek:k=l.length:=by omega
  subst ek;simp[-al,-List.map_append]
structure jO (D:Vd):Prop where
 f:Full D
 k:0<D.K.length
 c:0<=D.n.calls/\D.n.calls<=64
 n:0<=D.n.aj/\D.n.aj<=64
 r:0<=D.n.aq/\D.n.aq<=64
 rl:∀x:Nat,x<D.K.length->(D.row x).length=D.n.calls.toNat
 inl:∀x:Nat,x<D.K.length->(ix D.IN (x:Int)).length=D.n.aj.toNat/\∀y∈ix D.IN (x:Int),0<=y/\y<(D.K.length:Int)
 rN:∀x c y:Nat,x<D.K.length->c<D.n.calls.toNat->y<D.K.length->(ix (D.bS x c) (y:Int)).length=D.n.aq.toNat/\∀z∈ix (D.bS x c) (y:Int),0<=z/\z<(D.K.length:Int)
def Vd.w3 (D:Vd) (cls:List Int) (x c y:Nat):List Int:=(ix (D.bS x c) (y:Int)).map (ix cls)++(ix (D.bS y c) (x:Int)).map (ix cls)
def Vd.mL (D:Vd) (cls:List Int) (x c k:Nat):List Int:=(List.range k).flatMap λy=>D.w3 cls x c y
def Vd.jP (D:Vd) (cls:List Int) (x j:Nat):List Int:=ix cls (x:Int)::(ix D.IN (x:Int)).map (ix cls)++(List.range j).flatMap λc=>D.mL cls x c D.K.length
theorem Tu{D:Vd}{cls:List Int}{x c k:Nat}:D.mL cls x c (k+1)=D.mL cls x c k++((ix (D.bS x c) (k:Int)).map (ix cls)++(ix (D.bS k c) (x:Int)).map (ix cls)):=by
 simp[Vd.mL,Vd.w3,mE]
theorem Tv{D:Vd}{cls:List Int}{x j:Nat}:D.jP cls x (j+1)=D.jP cls x j++D.mL cls x j D.K.length:=by
 simp[Vd.jP,mE]
theorem Jx{D:Vd}(h:jO D){cls:List Int}{x c:Nat}(hx:x<D.K.length) (hc:c<D.n.calls.toNat):∀{k:Nat},k<=D.K.length->(D.mL cls x c k).length<=k*128
 |0,_=>by simp[Vd.mL]
 |k+1,hk=>by
  have:=Jx h hx hc (cls:=cls) (k:=k) (by omega)
  rw[Tu];have h1:=(h.rN x c k hx hc (by omega)).1
  have h2:=(h.rN k c x (by omega) hc hx).1
  have h3:=h.r;simp only[bu,dR];omega
theorem Tw{D:Vd}(h:jO D){cls:List Int}{x:Nat}(hx:x<D.K.length):∀{j:Nat},j<=D.n.calls.toNat->(D.jP cls x j).length<=65+j*65536
 |0,_=>by have:=(h.inl x hx).1;have:=h.n;simp[Vd.jP];omega
 |j+1,hj=>by
  have:=Tw h hx (cls:=cls) (j:=j) (by omega)
  rw[Tv,bu];have h1:=Jx h (cls:=cls) hx (c:=j) (by omega) (bw D.K.length)
  have:=h.f.k;omega
theorem alP (D:Vd) (h:jO D) (cls:List Int) (gD:cls.length=D.K.length) (x:Nat) (hx:x<D.K.length):PC Ee [D.vcs.av,iL cls,.int x]=some (.aE false (bK (df (D.jP cls x D.n.calls.toNat)))):=by
 refine cW (aio rfl ?_);have hf:=h.f;have AX:=hf.k;have AK:=hf.i;have hfb:=hf.b;have fc:=h.inl x hx;have lI:=h.c;have wz:=h.n;have Ga:=h.r;have Jp:=bM (show(x:Int)<(cls.length:Int)by omega)
 have AJ:=bM (show(x:Int)<(D.IN.length:Int)by omega)
 have AE:=bM (show(x:Int)<(D.BL.length:Int)by omega)
 have jA:=zQ cls (ix D.IN (x:Int)) [ix cls (x:Int)%256,ix cls (x:Int)/256%256] (λy hy=>by rw[gD];exact fc.2 y hy) (by simp) (by simp;omega)
 have vV:(ix cls (x:Int)).fdiv 256=ix cls (x:Int)/256:=Int.fdiv_eq_ediv_of_nonneg _ (by omega)
 have alQ : L Ej [.aE false ((ix D.IN (x:Int)).map .int),.ptr 1 (aC none) 0,.bd (.aE false (cls.map .int))] [⟨none,sW [.ik 4 (ix cls (x:Int)%256),.ik 4 (ix cls (x:Int)/256%256)],.live⟩,⟨none,[.sl 0 2 0 2],.live⟩]=some (.bQ [],EV (df (D.jP cls x 0))):=by
  have e:df (D.jP cls x 0)=[ix cls (x:Int)%256,ix cls (x:Int)/256%256]++df ((ix D.IN (x:Int)).map (ix cls)):=by simp[Vd.jP,df,AW]
  rw[e];exact jA
 simp[-al,-List.map_append,Jp,AJ,AE,vV,alQ];refine bC (λc:Nat=>[(6,.int c)]) (λc=>EV (df (D.jP cls x c))) (λc=>c<=D.n.calls.toNat) (λc=>D.n.calls.toNat-c) 0 (by simp[bT]) (by omega) ?_
 intro c c0;have lA:=Tw h (cls:=cls) hx c0
 by_cases hc:c<D.n.calls.toNat
 ·have r6:=bM (show(c:Int)<D.n.calls by omega)
  simp[-al,-List.map_append,r6];have ez:EV (df (D.jP cls x c))=EV (df (D.jP cls x c++D.mL cls x c 0)):=by simp[Vd.mL]
  refine bC (λy:Nat=>[(8,.int y)]) (λy=>EV (df (D.jP cls x c++D.mL cls x c y))) (λy=>y<=D.K.length) (λy=>D.K.length-y) 0 (by rw[<-ez];simp[bT]) (by omega) ?_
  intro y y0;have aqv:=Jx h (cls:=cls) hx hc y0
  by_cases hy:y<D.K.length
  ·have e0:=Tu (D:=D) (cls:=cls) (x:=x) (c:=c) (k:=y)
   have mH:=h.rN x c y hx hc hy;have AN:=h.rN y c x hy hc hx;have bY:df (D.jP cls x c++D.mL cls x c y) ≠ []:=by simp[Vd.jP,df,AW]
   have r8:=EU (D.jP cls x c++D.mL cls x c y);rw[bu]at r8;have hq1:=zQ cls (ix (D.bS x c) (y:Int)) (df (D.jP cls x c++D.mL cls x c y)) (λz hz=>by rw[gD];exact mH.2 z hz) bY (by omega)
   rw[<-Tq]at hq1;have lU:=EU (D.jP cls x c++D.mL cls x c y++(ix (D.bS x c) (y:Int)).map (ix cls));rw[bu,bu,dR]at lU;have Gf:=zQ cls (ix (D.bS y c) (x:Int)) (df (D.jP cls x c++D.mL cls x c y++(ix (D.bS x c) (y:Int)).map (ix cls))) (λz hz=>by rw[gD];exact AN.2 z hz) (by simp[Vd.jP,df,AW]) (by omega)
   rw[<-Tq]at Gf;have e1:D.jP cls x c++D.mL cls x c y++(ix (D.bS x c) (y:Int)).map (ix cls)++(ix (D.bS y c) (x:Int)).map (ix cls)=D.jP cls x c++D.mL cls x c (y+1):=by rw[e0];simp
   rw[e1]at Gf;have hy1:=bM (show(y:Int)<(D.BL.length:Int)by omega)
   have hy2:=bM (show(y:Int)<(D.K.length:Int)by omega)
   have AL:=bM (show(c:Int)<((ix D.BL (x:Int)).length:Int)by have:=h.rl x hx;unfold Vd.row at this;omega)
   have AM:=bM (show(c:Int)<((ix D.BL (y:Int)).length:Int)by have:=h.rl y hy;unfold Vd.row at this;omega)
   have Lk:=bM (show(y:Int)<((ix (ix D.BL (x:Int)) (c:Int)).length:Int)by have:=hf.c x c hx hc;unfold Vd.bS Vd.row at this;omega)
   have nZ:=bM (show(x:Int)<((ix (ix D.BL (y:Int)) (c:Int)).length:Int)by have:=hf.c y c hy hc;unfold Vd.bS Vd.row at this;omega)
   generalize df (D.jP cls x c++D.mL cls x c y++(ix (D.bS x c) (y:Int)).map (ix cls))=M at *;unfold Vd.bS Vd.row at hq1 Gf;generalize df (D.jP cls x c++D.mL cls x c y)=B at *;simp[-al,-List.map_append,hy2,hy1,AE,AL,AM,Lk,nZ,hq1,Gf];exact⟨by omega,ba (y+1) (by simp) rfl (by omega) (by omega)⟩
  ·have ey:y=D.K.length:=by omega
   subst ey;have e3:=Tv (D:=D) (cls:=cls) (x:=x) (j:=c);simp[-al,-List.map_append,hy];exact⟨by omega,ba (c+1) (by simp) (by rw[e3]) (by omega) (by omega)⟩
 ·have ec:c=D.n.calls.toNat:=by omega
  have r6:=gg (show ¬(c:Int)<D.n.calls by omega)
  simp[-al,-List.map_append,r6];have pH:view (EV (df (D.jP cls x c))) false vd (.sl 0 (df (D.jP cls x c)).length 0 (df (D.jP cls x c)).length)=some (.aE false (bK (df (D.jP cls x c)))):=gu (k:=11) (f:=AV.ik 4) (g:=AV.ik 4) (st:=.live) rfl rfl rfl λ_ _=>rfl;rw[pH,ec]
  rfl
def Vd.AY (D:Vd) (cls:List Int) (x:Nat):List Int:=df (D.jP cls x D.n.calls.toNat)
def Vd.jc (D:Vd) (cls:List Int):List (List Int):=(List.range D.K.length).map (D.AY cls)
theorem EW:∀{l:List Int},dA (df l)
 | [],x,hx=>by simp[df]at hx
 |a::l,x,hx=>by
  simp only[df,AW,jD,eI,cB,List.not_mem_nil,or_false]at hx;rcases hx with(rfl|rfl)|hx
  ·omega
  ·omega
  ·exact EW (l:=l) x hx
theorem zR:∀w:List Int,fitAll (aC none) (bK w)=true
 | []=>rfl
 |a::w=>by
  have:=zR w;simp only[bK,db,fitAll]at this ⊢;rw[this];rfl
theorem Jy:∀w:List Int,(bK w).flatMap AV.cells=bK w
 | []=>rfl
 |a::w=>by
  have:=Jy w;simp only[bK,db,jD]at this ⊢;rw[this];rfl
theorem EX:∀(i:Nat) (K:List (List Int)),(qM i K).length=K.length
 |_,[]=>rfl
 |i,k::K=>by simp only[qM,cw,EX (i+1) K]
theorem Jz{α:Type}{A:List α}{x k:Nat}{z v:α}(h:A.length=x):(A++List.replicate (k+1) z).set x v=A ++ [v]++List.replicate k z:=by
 subst h;rw[List.set_append,aa (by omega),Nat.sub_self]
 simp[uc]
theorem alR (D:Vd) (h:jO D) (cls:List Int) (gD:cls.length=D.K.length):PC IA [D.vcs.av,iL cls]=some (.bQ [iL (idxs (aH [] (D.jc cls)) (D.jc cls)),.int (aH [] (D.jc cls)).length]):=by
 refine cW (ah2 rfl ?_);have AX:=h.f.k;have gy:(D.jc cls).length=D.K.length:=by simp[Vd.jc]
 have qN:∀x,bg 1 (.str x)=true:=λ_=>rfl;simp[-al,-List.map_replicate];refine⟨by omega,?_⟩
 refine bC (λx:Nat=>[(2,.int x)]) (λx=>[⟨some 0,[],.map (qM 0 (aH [] ((D.jc cls).take x)))⟩,Zb (idxs (aH [] ((D.jc cls).take x)) ((D.jc cls).take x)++List.replicate (cls.length-x) 0)]) (λx=>x<=cls.length) (λx=>cls.length-x) 0 (by simp[bT,aH,idxs,qM]) (by omega) ?_
 intro x x0
 by_cases hx:x<cls.length
 ·have hs:=alP D h cls gD x (by omega)
  have tk:=lg (w:=D.jc cls) (k:=x) (by omega)
  have e1:ix (D.jc cls) (x:Int)=D.AY cls x:=by
   unfold Vd.jc;rw[jt (by omega) (by simp;omega),aS (show x<(List.range D.K.length).length by simp;omega)]
   simp
  have hb:=Er (l:=D.AY cls x) EW;have hk:∀k∈aH [] ((D.jc cls).take x),dA k:=EH (by simp) λv hv=>by
   obtain⟨y,_,rfl⟩:=cR.1 (List.mem_of_mem_take hv);exact EW
  have AK:=wR (l:=D.AY cls x) EW 0 _ hk;have eu:=EI (K:=[]) (vs:=(D.jc cls).take x) (l:=D.AY cls x);have FQ:=zH (K:=[]) (vs:=(D.jc cls).take x) (l:=D.AY cls x);rw[e1]at tk;have WB:(idxs (aH [] ((D.jc cls).take x)) ((D.jc cls).take x)).length=x:=by simp[idxs];omega
  have gP : PC Ee [D.vcs.av,iL cls,.int x]=some (.aE false (bK (D.AY cls x))):=hs;clear hs;generalize D.AY cls x=w at *;generalize hV:(D.jc cls).take x=V at *;have hxi:=bM (show(x:Int)<(cls.length:Int)by omega)
  by_cases hm:w∈aH [] V
  ·rw[ab hm]at AK
   have Nd:iu (aH [] V) w=aH [] V:=ab hm;rw[Nd]at FQ;generalize hKK:aH [] V=KK at *;simp[-al,-List.map_append,-List.map_replicate,hxi,gP, zR,Jy,hb,AK,qN,EX];refine⟨zR w,by omega,by omega,by omega,ba (x+1) (by simp) ?_ (by omega) (by omega)⟩
   rw[FQ]at eu;rw[<-List.map_set,tk,FQ,eu,show cls.length-x=(cls.length-(x+1))+1 by omega,Jz (by simpa using WB)]
  ·rw[aa hm]at AK
   have Nd:iu (aH [] V) w=aH [] V ++ [w]:=aa hm;rw[Nd]at FQ;generalize hKK:aH [] V=KK at *;simp[-al,-List.map_append,-List.map_replicate,hxi,gP, zR,Jy,hb,AK,qN,EX];have qj:KK.idxOf w=KK.length:=List.idxOf_eq_length hm;refine⟨zR w,by omega,by omega,by omega,ba (x+1) (by simp) ?_ (by omega) (by omega)⟩
   rw[FQ]at eu;rw[<-List.map_set,tk,FQ,eu,show cls.length-x=(cls.length-(x+1))+1 by omega,Jz (by simpa using WB),EG,qj]
   simp
 ·have ex:x=cls.length:=by omega
  subst ex;rw[gl (by omega)]
  have pH:view [⟨some 0,[],.map (qM 0 (aH [] (D.jc cls)))⟩,Zb (idxs (aH [] (D.jc cls)) (D.jc cls))] false vd (.sl 1 cls.length 0 cls.length)=some (iL (idxs (aH [] (D.jc cls)) (D.jc cls))):=qL (st:=.live) rfl rfl (by simp[idxs];omega)
  simp[-al,-List.map_append,-List.map_replicate,pH,EX]
def Vd.ac (D:Vd) (st x:Int):Bool:=ix D.n.accept (ix (ix D.K x) st)
def Vd.im (D:Vd) (x i:Int):Int:=ix (ix D.IN x) i
def Vd.bk (D:Vd) (x c y r:Int):Int:=ix (ix (ix (ix D.BL x) c) y) r
inductive w4 (D:Vd) (st:Int):Int->Int->Prop
 |acc (x y:Int):D.ac st x ≠ D.ac st y->w4 D st x y
 |aQ (x y i:Int):0<=i->i<D.n.aj->w4 D st (D.im x i) (D.im y i)->w4 D st x y
 |bl (x y c z r:Int):0<=c->c<D.n.calls->0<=z->z<(D.K.length:Int)->0<=r->r<D.n.aq->w4 D st (D.bk x c z r) (D.bk y c z r)->w4 D st x y
 |br (x y c z r:Int):0<=c->c<D.n.calls->0<=z->z<(D.K.length:Int)->0<=r->r<D.n.aq->w4 D st (D.bk z c x r) (D.bk z c y r)->w4 D st x y
theorem Tx:∀{l m:List Int},(∀x∈l,0<=x/\x<=65535)->(∀x∈m,0<=x/\x<=65535)->df l=df m->l=m
 | [],[],_,_,_=>rfl
 | [],b::m,_,_,h=>by simp[df,AW]at h
 |a::l,[],_,_,h=>by simp[df,AW]at h
 |a::l,b::m,h1,h2,h=>by
  simp only[df,AW,jD,kX,q7,List.cons.injEq]at h;have ha:=h1 a (by simp)
  have hb:=h2 b (by simp)
  rw[Tx (λx hx=>h1 x (by simp[hx])) (λx hx=>h2 x (by simp[hx])) h.2.2,show a=b by omega]
theorem zS{α β:Type}{f g:α->List β}:∀{l:List α},(∀i∈l,(f i).length=(g i).length)->(l.flatMap f=l.flatMap g↔∀i∈l,f i=g i)
 | [],_=>by simp
 |a::l,h=>by
  have ih:=zS (l:=l) λi hi=>h i (by simp[hi])
  simp only[jD,cB,forall_eq_or_imp,<-ih];exact⟨λe=>List.append_inj e (h a (by simp)),λe=>by rw[e.1,e.2]⟩
theorem EY{cls l m:List Int}(hl:l.length=m.length):l.map (ix cls)=m.map (ix cls)↔∀i:Int,0<=i->i<(l.length:Int)->ix cls (ix l i)=ix cls (ix m i):=by
 constructor
 ·intro e i i0 i1
  have h1:=jt (f:=ix cls) (l:=l) i0 i1;have h2:=jt (f:=ix cls) (l:=m) i0 (by omega)
  rw[<-h1,<-h2,e]
 ·intro h
  refine zy (by simpa using hl) λi i0 i1=>?_
  simp at i1;rw[jt i0 i1,jt i0 (by omega)]
  exact h i i0 i1
structure EZ (D:Vd) (cls:List Int) (x y:Int):Prop where
 e:ix cls x=ix cls y
 i:∀i,0<=i->i<D.n.aj->ix cls (D.im x i)=ix cls (D.im y i)
 l:∀c z r,0<=c->c<D.n.calls->0<=z->z<(D.K.length:Int)->0<=r->r<D.n.aq->ix cls (D.bk x c z r)=ix cls (D.bk y c z r)
 r:∀c z r,0<=c->c<D.n.calls->0<=z->z<(D.K.length:Int)->0<=r->r<D.n.aq->ix cls (D.bk z c x r)=ix cls (D.bk z c y r)
theorem alS{D:Vd}(h:jO D){cls:List Int}{x y:Nat}(hx:x<D.K.length) (hy:y<D.K.length):D.jP cls x D.n.calls.toNat=D.jP cls y D.n.calls.toNat↔EZ D cls x y:=by
 have qj:=(h.inl x hx).1;have hiy:=(h.inl y hy).1;have hr:=h.r;have hn:=h.n;have r8:∀c,c<D.n.calls.toNat->∀z,z<D.K.length->(D.w3 cls x c z).length=(D.w3 cls y c z).length:=λc hc z hz=>by
  simp only[Vd.w3,bu,dR,(h.rN x c z hx hc hz).1,(h.rN y c z hy hc hz).1,(h.rN z c x hz hc hx).1,(h.rN z c y hz hc hy).1]
 have lU:∀c,c<D.n.calls.toNat->(D.mL cls x c D.K.length).length=(D.mL cls y c D.K.length).length:=λc hc=>by
  simp only[Vd.mL,List.length_flatMap]
  congr 1
  exact gf λz hz=>r8 c hc z (cy.1 hz)
 have k1:D.jP cls x D.n.calls.toNat=D.jP cls y D.n.calls.toNat↔ix cls (x:Int)=ix cls (y:Int)/\(ix D.IN (x:Int)).map (ix cls)=(ix D.IN (y:Int)).map (ix cls)/\∀c∈List.range D.n.calls.toNat,D.mL cls x c D.K.length=D.mL cls y c D.K.length:=by
  rw[<-zS λc hc=>lU c (cy.1 hc)];unfold Vd.jP;simp only[kX,List.cons.injEq];exact⟨λe=>⟨e.1,List.append_inj e.2 (by simp;omega)⟩,λe=>⟨e.1,by rw[e.2.1,e.2.2]⟩⟩
 have k2:∀c,c<D.n.calls.toNat->(D.mL cls x c D.K.length=D.mL cls y c D.K.length↔∀z∈List.range D.K.length,D.w3 cls x c z=D.w3 cls y c z):=λc hc=>zS λz hz=>r8 c hc z (cy.1 hz);have k3:∀c,c<D.n.calls.toNat->∀z,z<D.K.length->(D.w3 cls x c z=D.w3 cls y c z↔(∀r,0<=r->r<D.n.aq->ix cls (D.bk x c z r)=ix cls (D.bk y c z r))/\∀r,0<=r->r<D.n.aq->ix cls (D.bk z c x r)=ix cls (D.bk z c y r)):=λc hc z hz=>by
  have a1:=(h.rN x c z hx hc hz).1;have a2:=(h.rN y c z hy hc hz).1;have a3:=(h.rN z c x hz hc hx).1;have a4:=(h.rN z c y hz hc hy).1;have e1:D.w3 cls x c z=D.w3 cls y c z↔(ix (D.bS x c) (z:Int)).map (ix cls)=(ix (D.bS y c) (z:Int)).map (ix cls)/\(ix (D.bS z c) (x:Int)).map (ix cls)=(ix (D.bS z c) (y:Int)).map (ix cls):=by
   unfold Vd.w3;exact⟨λe=>List.append_inj e (by simp;omega),λe=>by rw[e.1,e.2]⟩
  rw[e1,EY (by omega),EY (by omega),a1,a3,show((D.n.aq.toNat:Nat):Int)=D.n.aq by omega]
  exact Iff.rfl
 rw[k1];constructor
 ·rintro⟨e1,e2,e3⟩
  have q:=λc hc z hz=>(k3 c hc z hz).1 ((k2 c hc).1 (e3 c (cy.2 hc)) z (cy.2 hz));refine⟨e1,λi i0 i1=>(EY (by omega)).1 e2 i i0 (by omega),λc z r c0 c1 z0 z1 r0 r1=>?_,λc z r c0 c1 z0 z1 r0 r1=>?_⟩
  ·have:=(q c.toNat (by omega) z.toNat (by omega)).1 r r0 r1
   rwa [show((c.toNat:Nat):Int)=c by omega,show((z.toNat:Nat):Int)=z by omega]at this
  ·have:=(q c.toNat (by omega) z.toNat (by omega)).2 r r0 r1
   rwa [show((c.toNat:Nat):Int)=c by omega,show((z.toNat:Nat):Int)=z by omega]at this
 ·intro g
  refine⟨g.e,(EY (by omega)).2 λi i0 i1=>g.i i i0 (by omega),λc hc=>?_⟩
  have fW :=cy.1 hc;refine(k2 c fW).2 λz hz=>(k3 c fW z (cy.1 hz)).2 ⟨λr r0 r1=>g.l c z r (by omega) (by omega) (by omega) (by have:=cy.1 hz;omega) r0 r1,λr r0 r1=>g.r c z r (by omega) (by omega) (by omega) (by have:=cy.1 hz;omega) r0 r1⟩
end Ab
