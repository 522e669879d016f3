/- Comparisons, sorted words, in memory. The first vector: the program. The signature of a vector: the program. Classes are divided: the program. Classes of vectors: what they are. Condition: none. -/
import Derived.Test.YtdenhmniigikcaaGreatBfsOrd
import Derived.Test.YtdenhmniigikcaaGreatN44J
import Derived.Test.YtdenhmniigikcaaGreatCan
set_option linter.all false
set_option maxRecDepth 100000
set_option maxHeartbeats 4000000
namespace Ab
def cI (x y:Int):Int:=if x<y then -1 else if y<x then 1 else 0
theorem amu (x:Int):PC EJ [.int x]=some (.bool false):=by
 refine cu (ajo rfl ?_);simp
theorem TK (x y:Int):PC EF [.int x,.int y]=some (.int (cI x y)):=by
 refine cu (ai4 rfl ?_);simp[amu];refine⟨λh=>by simp[cI,h],λh=>⟨λk=>?_,λk=>?_⟩⟩
 ·simp[cI,k];omega
 ·simp[cI];omega
theorem amv (x y:Int):PC Jl [.aE false [.int x,.int y]]=some (.int (if x=0 then y else x)):=by
 refine cu (ai3 rfl ?_);have e:(.aE false [.int x,.int y]:AV)=iL [x,y]:=rfl;rw[e];simp only[iL];generalize hl:[x,y]=l;have hlen:l.length=2:=by rw[<-hl];rfl
 simp[hlen];refine bu (λi:Int=>[(1,.int i)]) (λ_=>[]) (λi=>0<=i/\i<=2/\∀j,0<=j->j<i->ix l j=0) (λi=>(2-i).toNat) 0 rfl ⟨by omega,by omega,qn⟩ λi ⟨i0,i1,i2⟩=>?_
 have e0:ix l 0=x:=by rw[<-hl];rfl
 have e1:ix l 1=y:=by rw[<-hl];rfl
 by_cases hi:i<2
 ·simp[-ao,hi,i0,hlen]
  refine⟨λh=>⟨by omega,aX (i+1) rfl rfl ⟨by omega,by omega,kM h i2⟩ (by omega)⟩,λh=>?_⟩
  by_cases e:i=0
  ·subst e;rw[e0]at h ⊢;simp[h]
  ·have:i=1:=by omega
   subst this;have:=i2 0 (by omega) (by omega)
   rw[e0]at this;rw[e1];simp[this]
 ·have h0:=i2 0 (by omega) (by omega)
  have h1:=i2 1 (by omega) (by omega)
  rw[e0]at h0;rw[e1]at h1;simp[hi,h0,h1]
theorem amw{a b:List Int}{i:Int}(h0:0<=i) (h1:i<a.length) (h2:i<b.length):cS (a.drop i.toNat) (b.drop i.toNat)=if cI (ix a i) (ix b i)=0 then cS (a.drop (i+1).toNat) (b.drop (i+1).toNat)else cI (ix a i) (ix b i):=by
 rw[Cd h0 h1,Cd h0 h2];unfold cI;simp only[cS];split
 ·simp
 ·split<;>simp
theorem amx (a b:List Int) (ha:(a.length:Int)<=9223372036854775807) (hb:(b.length:Int)<=9223372036854775807):PC Jm [iL a,iL b]=some (.int (cS a b)):=by
 refine cu (ai5 rfl ?_);simp;refine bu (λi:Int=>[(2,.int i)]) (λ_=>[]) (λi=>0<=i/\i<=a.length/\i<=b.length/\cS (a.drop i.toNat) (b.drop i.toNat)=cS a b) (λi=>(a.length-i).toNat) 0 rfl ⟨by omega,by omega,by omega,rfl⟩ λi ⟨i0,i1,i2,i3⟩=>?_
 by_cases hi:i<a.length
 ·by_cases hj:i<b.length
  ·have e:=amw i0 hi hj
   rw[i3]at e;simp[-ao,hi,hj,i0,TK,show ¬(b.length:Int)<=i by omega]
   refine⟨λh=>⟨by omega,aX (i+1) rfl rfl ⟨by omega,by omega,by omega,by rw[ae h]at e;exact e.symm⟩ (by omega)⟩,λh=>by rw[ab h]at e;exact e.symm⟩
  ·have e:b.drop i.toNat=[]:=IG (by omega)
   rw[e,Cd i0 hi]at i3;have i3:(1:Int)=cS a b:=i3;simp[-ao,hi,hj,i0,show(b.length:Int)<=i by omega]
   exact i3
 ·have e:a.drop i.toNat=[]:=IG (by omega)
  rw[e]at i3;simp[hi]
  by_cases hj:i<b.length
  ·rw[Cd i0 hj]at i3
   have i3:(-1:Int)=cS a b:=i3;exact⟨λ_=>i3,λh=>by omega⟩
  ·rw[IG (by omega)]at i3
   have i3:(0:Int)=cS a b:=i3;exact⟨λh=>by omega,λ_=>i3⟩
theorem Fj (a b:List Int) (ha:(a.length:Int)<=9223372036854775807) (hb:(b.length:Int)<=9223372036854775807):PC pj [iL a,iL b]=some (.int (aW a b)):=by
 refine cu (aiw rfl ?_);simp[TK,amx a b ha hb,amv];unfold aW cI
 (repeat' split)<;>first|rfl|omega
abbrev GV:=List Int->List Int->Int
section
variable{K:GV}
def w8 (K:GV) (x:List Int):List (List Int)->List (List Int)
 | []=>[x]
 |y::r=>if K x y<=0 then x::y::r else y::w8 K x r
def fH (K:GV):List (List Int)->List (List Int)
 | []=>[]
 |x::r=>w8 K x (fH K r)
theorem TL (x:List Int):∀l:List (List Int),rq K (iL x) (l.map iL)=(w8 K x l).map iL
 | []=>rfl
 |y::r=>by
  have e:tX K (iL x) (iL y)=decide (K x y<=0):=by
   unfold tX;rw[show cp (iL x)=some x from wg x,show cp (iL y)=some y from wg y]
  simp only[dd,rq,w8,e,TL x r]
  by_cases h:K x y<=0<;>simp[h]
theorem TM:∀l:List (List Int),ef K (l.map iL)=(fH K l).map iL
 | []=>rfl
 |x::r=>by simp only[dd,ef,fH,TM r,TL]
theorem TN (x:List Int):∀l,(w8 K x l).Perm (x::l)
 | []=>.refl _
 |y::r=>by
  unfold w8;split
  ·exact .refl _
  ·exact((TN x r).cons y).trans (.swap x y r)
theorem Fk:∀l,(fH K l).Perm l
 | []=>.refl _
 |x::r=>(TN x _).trans ((Fk r).cons x)
def gy (l:List (List Int)):Nat->List (List Int)
 |0=>[]
 |n+1=>if 0<n/\ix l (n:Int)=ix l ((n:Int)-1)then gy l n else gy l n ++ [ix l (n:Int)]
def fQ (l:List (List Int)):List (List Int):=gy l l.length
theorem TP (l:List (List Int)):∀n,(gy l n).length<=n
 |0=>by simp[gy]
 |n+1=>by
  have:=TP l n;unfold gy;split
  ·omega
  ·simp;omega
theorem TQ{l:List (List Int)}:∀{n:Nat}{w:List Int},n<=l.length->(w∈gy l n↔∃j:Int,0<=j/\j<n/\ix l j=w)
 |0,w,_=>by simp[gy];intro j;omega
 |n+1,w,h=>by
  have ih:=λw=>TQ (l:=l) (n:=n) (w:=w) (by omega)
  unfold gy;split
  ·rename_i he
   rw[ih];constructor
   ·rintro⟨j,j0,j1,e⟩;exact⟨j,j0,by omega,e⟩
   ·rintro⟨j,j0,j1,e⟩
    by_cases hj:j=(n:Int)
    ·subst hj;exact⟨(n:Int)-1,by omega,by omega,by rw[<-he.2];exact e⟩
    ·exact⟨j,j0,by omega,e⟩
  ·rw[eH,ih]
   constructor
   ·rintro(⟨j,j0,j1,e⟩|e)
    ·exact⟨j,j0,by omega,e⟩
    ·simp at e;exact⟨n,by omega,by omega,e.symm⟩
   ·rintro⟨j,j0,j1,e⟩
    by_cases hj:j=(n:Int)
    ·subst hj;right;simp[e]
    ·left;exact⟨j,j0,by omega,e⟩
theorem amy{l:List (List Int)}{w:List Int}:w∈fQ l↔w∈l:=by
 unfold fQ;rw[TQ (bA _)];constructor
 ·rintro⟨j,j0,j1,rfl⟩;exact aU j0 j1
 ·intro h
  obtain⟨i,hi,rfl⟩:=fM.1 h;exact⟨i,by omega,by omega,aT hi⟩
abbrev amz (K:GV) (l:List (List Int)):Prop:=l.Pairwise λa b=>K a b<0
def mO (K:GV) (l:List (List Int)):List (List Int):=fQ (fH K l)
theorem TR{l:List (List Int)}{w:List Int}:w∈mO K l↔w∈l:=by
 unfold mO;rw[amy,(Fk l).mem_iff]
theorem TS (l:List (List Int)):(fQ l).length<=l.length:=TP l _
theorem Fl (l:List (List Int)):(fH K l).length=l.length:=(Fk l).length_eq
end
abbrev Ba (l:List (List Int)):Prop:=amz aW l
abbrev gC (l:List (List Int)):List (List Int):=mO aW l
theorem amA{l:List (List Int)}{w:List Int}:w∈gC l↔w∈l:=TR
theorem amB{ce:CE}{g:Nat}{aI d:List AV}(h:agree ce g aI aW d=true) (k:agree ce g aI cS d=true):ef aW d=ef cS d:=by
 have hw:kf d:=λx hx=>by
  obtain⟨u,v,h1,_⟩:=ru h hx hx;exact⟨u,h1⟩
 refine No Nk hw (um d) ?_;have hs:=H3 dK hw;refine hs.imp_of_mem fun {x y} hx hy wh=>?_;have bR :=(um d).mem_iff.1 hx;have km :=(um d).mem_iff.1 hy;obtain⟨u,v,h1,h2,h3⟩:=ru h bR km;obtain⟨u', v', k1,k2,k3⟩:=ru k bR km;rw[h1]at k1;rw[h2]at k2;injection k1 with k1;injection k2 with k2
 subst k1;subst k2;rw[h3]at k3;have e:aW u v=cS u v:=by simpa using k3
 rw[rr h1 h2]at wh ⊢;omega
structure TT (f:Nat) (K:GV):Prop where
 ok:BP K
 run:∀a b:List Int,(a.length:Int)<=1000000->(b.length:Int)<=1000000->PC f [iL a,iL b]=some (.int (K a b))
 one:K=aW\/K=cS
theorem amC:TT pj aW:=⟨dK,λa b ha hb=>Fj a b (by omega) (by omega),.inl rfl⟩
section
variable{K:GV}
abbrev LB (ws:List (List Int)) (k:Nat):ag:=⟨none,ws.map iL++List.replicate k .ah,.live⟩
abbrev Lb (ws:List (List Int)):ag:=⟨none,ws.map iL,.live⟩
abbrev pA (ws:List (List Int)):Prop:=∀w∈ws,(w.length:Int)<=1000000
theorem TU (w:List Int) (h:(w.length:Int)<=1000000):PC uK [iL w]=some (iL w):=by
 first
 |(
  have e:vu (cN G Q 0) [iL w]=some (iL w):=by
   simp only[vu,iL];rw[ae];simp[isScalar]
   try omega
  have:=Jh e;unfold PC xM;rw[this]
  rfl)
 |(
  cases w with
  |nil=>
   have e:gg (cN G Q 0) [iL []] []=some (.emp,[]):=rfl;have:=Jh e;unfold PC xM;rw[this]
   rfl
  |cons x l=>
   have e:gg (cN G Q 0) [iL (x::l)] []=some (.sl 0 (x::l).length 0 (x::l).length,[⟨none,(x::l).map .int,.live⟩]):=by
    simp only[gg,iL,dd];rw[ae]
    ·simp
    ·simp[isScalar,dG]
     simp at h;omega
   have:=Jh e;unfold PC xM;rw[this];exact qP rfl rfl rfl)
theorem amD{vars env:List AV}{x:Rf}{z:List AV}{k:Option Nat}{aA σ:List ag}{K:List AV->List ag->List ag->Prop}{b u off len:Nat}{B:ag}(hr:rv vars env x = .sl b u off len) (hu:upto σ b u=some B) (hc:0<len/\off+len*aC k<=B.cells.length/\aC B.k=aC k/\z.length=aC k/\B.st.isLive=true):ct L vars (.vm x z k) false env aA σ K=K (.aM::env) [] (az σ b ⟨B.k,putAt B.cells off (eG len z),B.st⟩):=by
 show aQ (fF L σ (rv vars env) (.vm x z k)) (λp=>K (p.1::env) [] p.2)=_;simp only[fF,hr,hu];rw[ae hc];rfl
theorem TV{vs:List (List Int)}(h:gy vs vs.length=vs.take vs.length):fQ vs=vs:=by unfold fQ;rw[h,List.take_length]
theorem TW{vs:List (List Int)}(h:0<vs.length):gy vs 1=vs.take 1:=by
 match vs,h with
 |x::r,_=>rfl
theorem TX{vs:List (List Int)}{k:Int}(k0:1<=k) (h:ix vs k=ix vs (k-1)):gy vs (k+1).toNat=gy vs k.toNat:=by
 rw[show(k+1).toNat=k.toNat+1 by omega]
 conv=>lhs;unfold gy
 rw[ae ⟨by omega,by rw[show((k.toNat:Nat):Int)=k by omega];exact h⟩]
theorem TY{vs:List (List Int)}{k:Int}(k0:1<=k) (h:¬ix vs k=ix vs (k-1)):gy vs (k+1).toNat=gy vs k.toNat ++ [ix vs k]:=by
 rw[show(k+1).toNat=k.toNat+1 by omega]
 conv=>lhs;unfold gy
 rw[ab (λ⟨_,e⟩=>h (by rwa [show((k.toNat:Nat):Int)=k by omega]at e)),show((k.toNat:Nat):Int)=k by omega]
theorem amE{vs:List (List Int)}{k:Int}(h0:0<=k) (h1:k<vs.length):vs.take (k+1).toNat=vs.take k.toNat ++ [ix vs k]:=by
 rw[show(k+1).toNat=k.toNat+1 by omega,nO,l8 h0 h1];rfl
theorem amF{ws:List (List Int)}(h:pA ws):pA (fH K ws):=λw hw=>h w ((Fk ws).mem_iff.1 hw)
theorem amG (ws:List (List Int)) (h0:ws ≠ []) (hl:(ws.length:Int)<=1000000):L zu [cO ws] []=some (.sl 0 ws.length 0 ws.length,[Lb ws]):=by
 refine QZ (N:=0) ?_;obtain⟨x,l,rfl⟩:∃x l,ws=x::l:=by
  cases ws with
  |nil=>exact absurd rfl h0
  |cons x l=>exact⟨x,l,rfl⟩
 have h1:∀k:List (List Int),(k.map iL).all qI=true:=λk=>by simp[qI]
 have h2:∀k:List (List Int),ay (k.map iL)=true:=λk=>by
  induction k with
  |nil=>rfl
  |cons a r ih=>simp only[dd,ay,aO,Bool.true_and];exact ih
 have h3:((x::l).map iL).length<=dG:=by rw[dR];show(x::l).length<=1073741824;omega
 have hw:((x::l).map iL).map fU=(x::l).map iL:=by simp[fU]
 have hc:(((x::l).map iL).all qI&&ay ((x::l).map iL)&&decide (((x::l).map iL).length<=dG))=true:=by
  rw[h1,h2,qd h3];rfl
 show gI (cN G Q 0) [.aE false (iL x::l.map iL)] []=_;unfold gI;refine(ae hc).trans ?_;rw[show(iL x::l.map iL)=(x::l).map iL from rfl,hw,dR]
 rfl
theorem TZ{α:Type}{f:α->AV}{rest:List AV}:∀{xs:List α},chunk none xs.length (xs.map f++rest)=xs.map f
 | []=>rfl
 |x::xs=>by
  have e:=TZ (f:=f) (rest:=rest) (xs:=xs);simp only[cy,dd,lf,chunk,e]
theorem T1{σ:List ag}{fr:Bool}{b u r:Nat}{xs:List (List Int)}{st:eo}(h:al σ b=some ⟨none,xs.map iL++List.replicate r .ah,st⟩) (hs:st.gz=true) (hu:u=xs.length+r):view σ false vd (.sl b u 0 xs.length)=some (cO xs):=by
 subst hu;have hu:upto σ b (xs.length+r)=some ⟨none,xs.map iL++List.replicate r .ah,st⟩:=by
  unfold upto;rw[h];cases st<;>simp at hs ⊢
 show view σ false (11+1) _=_;unfold view;simp only[hu,aC,nP,jj,Nat.mul_one];rw[ae (by simp),TZ,E4 (f:=iL) (g:=iL) (v:=view σ false 11) λ_ _=>rfl]
theorem amH{xs:List (List Int)}{r:Nat}{i:Int}(h0:0<=i) (h1:i<xs.length):oU (xs.map iL++List.replicate r AV.ah) i.toNat=some (iL (ix xs i)):=by
 rw[nT,fw (by simp;omega),iv,l8 h0 h1];rfl
theorem amI{xs:List (List Int)}{r:Nat}{i:Int}(h0:0<=i) (h1:i<xs.length):(xs.map iL++List.replicate r AV.ah).set i.toNat (iL (ix xs i))=xs.map iL++List.replicate r AV.ah:=by
 rw[List.set_append,ae (by simp;omega),<-List.map_set]
 congr 2
 have:ix xs i=xs[i.toNat]:=by
  have:=aT (l:=xs) (n:=i.toNat) (by omega)
  rwa [show((i.toNat:Nat):Int)=i by omega]at this
 rw[this];exact List.set_getElem_self _
end
section
variable{f:Nat}{K:GV}(hF:TT f K)
include hF
theorem amJ (ws:List (List Int)) (h0:ws ≠ []) (hl:(ws.length:Int)<=1000000) (hw:pA ws):L zw [.sl 0 ws.length 0 ws.length,.func f []] [Lb ws]=some (.bS [],[Lb (fH K ws)]):=by
 have hc:∀x∈ws.map iL,∀y∈ws.map iL,∃u v,cp x=some u/\cp y=some v/\je (lim G Q) f (x::y :: [])=some (.int (K u v)):=by
  intro x hx y hy;obtain⟨u,hu,rfl⟩:=cU.1 hx;obtain⟨v,hv,rfl⟩:=cU.1 hy;refine⟨u,v,wg u,wg v,?_⟩;have:=hF.run u v (hw u hu) (hw v hv);unfold je;rw[ae (by simp)]
  exact this
 obtain⟨N,hN⟩:=ZG nZ hc;refine Q0 (N:=N) ?_;have hn:0<ws.length:=mC.2 h0;have hu:upto [Lb ws] 0 ws.length=some (Lb ws):=by simp[upto,al]
 have fS:(ws.map iL).length<=dG:=by rw[dR];show ws.length<=1073741824;omega
 simp only[lO,hu];have ht:(((ws.map iL).drop 0).take ws.length)=ws.map iL:=by rw[nP,gu (by simp)]
 rw[ht];have fo:((eo.live).isLive&&gX none&&decide (0<ws.length)&&decide (0+ws.length<=(ws.map iL).length)&&decide ((ws.map iL).length<=dG))=true:=by
  simp only[dR]at fS ⊢;simp[hn,eo.isLive,gX]
  try omega
 rw[ae fo];have amK:(if agree (cN G Q N) f [] aW (ws.map iL)=true then some (AV.bS [],az [Lb ws] 0 ⟨none,putAt (ws.map iL) 0 (ef aW (ws.map iL)),.live⟩)else if agree (cN G Q N) f [] cS (ws.map iL)=true then some (AV.bS [],az [Lb ws] 0 ⟨none,putAt (ws.map iL) 0 (ef cS (ws.map iL)),.live⟩)else none)=some (AV.bS [],az [Lb ws] 0 ⟨none,putAt (ws.map iL) 0 (ef K (ws.map iL)),.live⟩):=by
  rcases hF.one with e|e
  ·rw[e]at hN ⊢;rw[ae hN]
  ·rw[e]at hN ⊢
   by_cases h:agree (cN G Q N) f [] aW (ws.map iL)=true
   ·rw[ae h,amB h hN]
   ·rw[ab h,ae hN]
 rw[amK,TM];have hp:putAt (ws.map iL) 0 ((fH K ws).map iL)=(fH K ws).map iL:=by
  unfold putAt;rw[List.take_zero,rf,jJ (by simp[Fl])];simp
 rw[hp]
theorem T2 (a b:List Int) (ha:(a.length:Int)<=1000000) (hb:(b.length:Int)<=1000000):PC zx [iL a,iL b,.bd (.func f [])]=some (.bool (decide (a=b))):=by
 refine cu (ajD rfl ?_);have e:=hF.run a b ha hb;simp[e];exact⟨hF.ok.eq a b,λh=>by subst h;exact hF.ok.refl a⟩
theorem amL (vs:List (List Int)) (h0:vs ≠ []) (hl:(vs.length:Int)<=1000000) (hw:pA vs) :
  LX L Dd [.sl 0 vs.length 0 vs.length,.func zx [.bd (.func f [])]] [Lb vs] (λv τ=>v = .sl 0 vs.length 0 (fQ vs).length/\τ=[LB (fQ vs) (vs.length-(fQ vs).length)]):=by
 have hn:0<vs.length:=mC.2 h0;refine Q1 rfl ?_
 by_cases h2:vs.length<2
 ·simp[show(vs.length:Int)<2 by omega]
  have e1:vs.length=1:=by omega
  rw[TV (by rw[e1];exact TW hn)];simp
 ·simp[show ¬(vs.length:Int)<2 by omega]
  refine bu (λk:Int=>[(2,.int k)]) (λ_=>[Lb vs]) (λk=>1<=k/\k<=vs.length/\gy vs k.toNat=vs.take k.toNat) (λk=>(vs.length-k).toNat) 1 rfl ⟨by omega,by omega,?_⟩ λk ⟨k0,k1,k2⟩=>?_
  ·exact TW hn
  by_cases hk:k<vs.length
  ·have e:=T2 hF (ix vs k) (ix vs (k-1)) (hw _ (aU (by omega) hk)) (hw _ (aU (by omega) (by omega)))
   simp[-ao,hk,show 0<=k by omega,show 0<=k-1 by omega,show k-1<(vs.length:Int)by omega,e]
   refine⟨by omega,by omega,by omega,λhe=>⟨by omega,?_⟩,λhe=>⟨by omega,aX (k+1) rfl rfl ⟨by omega,by omega,by rw[TY (by omega) he,k2,amE (by omega) hk]⟩ (by omega)⟩⟩
   obtain⟨k,rfl⟩:∃k' : Nat,k=k' :=⟨k.toNat,by omega⟩
   have hkn:k<vs.length:=by omega
   rw[kG]at k2 ⊢;have bV:=TX (vs:=vs) k0 he;rw[show((k:Int)+1).toNat=k+1 by omega,kG,k2]at bV
   refine bu (λp:Nat×Nat×List (List Int)=>[(2,.int p.1),(3,.int ((p.2.1:Int)+1))]) (λp=>[Lb p.2.2]) (λp=>k+p.2.1+1<=vs.length/\p.2.2.length=vs.length/\p.1=(gy vs (k+p.2.1+1)).length/\p.1<=k+p.2.1/\p.2.2.take p.1=gy vs (k+p.2.1+1)/\∀j:Nat,k+p.2.1<=j->j<vs.length->ix p.2.2 (j:Int)=ix vs (j:Int))
    (λp=>vs.length-p.2.1) (k,0,vs) (by simp[bY]) ⟨by dsimp only;omega,rfl,by dsimp only;rw[Nat.add_zero,bV];simp;omega,by dsimp only;omega,by dsimp only;rw[Nat.add_zero,bV],λ_ _ _=>rfl⟩ ?_
   rintro⟨q,j,cs⟩ ⟨j1,c1,c2,c3,c4,c5⟩;dsimp only at j1 c1 c2 c3 c4 c5 ⊢
   by_cases hj:k+j+1<vs.length
   ·have e1:=c5 (k+j+1) (by omega) hj
    have e2:=c5 (k+j) (by omega) (by omega)
    have e:=T2 hF (ix vs ((k+j+1:Nat):Int)) (ix vs ((k+j:Nat):Int)) (hw _ (aU (by omega) (by omega))) (hw _ (aU (by omega) (by omega)))
    rw[<-e1,<-e2,show((k+j+1:Nat):Int)=(k:Int)+((j:Int)+1)by omega,show((k+j:Nat):Int)=(k:Int)+j by omega]at e
    simp[-ao,c1,show(j:Int)+1<((vs.length-k:Nat):Int)by omega,e]
    have s1:ix vs ((k+j+1:Nat):Int)=ix vs ((k+j:Nat):Int)->gy vs (k+(j+1)+1)=gy vs (k+j+1):=λh=>by
     have:=TX (vs:=vs) (k:=((k+j+1:Nat):Int)) (by omega) (by rw[show((k+j+1:Nat):Int)-1=((k+j:Nat):Int)by omega];exact h)
     rw[show(((k+j+1:Nat):Int)+1).toNat=k+(j+1)+1 by omega,show(((k+j+1:Nat):Int)).toNat=k+j+1 by omega]at this
     exact this
    have s2:¬ix vs ((k+j+1:Nat):Int)=ix vs ((k+j:Nat):Int)->gy vs (k+(j+1)+1)=gy vs (k+j+1) ++ [ix vs ((k+j+1:Nat):Int)]:=λh=>by
     have:=TY (vs:=vs) (k:=((k+j+1:Nat):Int)) (by omega) (by rw[show((k+j+1:Nat):Int)-1=((k+j:Nat):Int)by omega];exact h)
     rw[show(((k+j+1:Nat):Int)+1).toNat=k+(j+1)+1 by omega,show(((k+j+1:Nat):Int)).toNat=k+j+1 by omega]at this
     exact this
    rw[<-e1,<-e2,show((k+j+1:Nat):Int)=(k:Int)+((j:Int)+1)by omega,show((k+j:Nat):Int)=(k:Int)+j by omega]at s1 s2
    refine⟨by omega,by omega,by omega,by omega,by omega,λh=>⟨by omega,aX (q,j+1,cs) (by simp) rfl ⟨by dsimp only;omega,c1,by dsimp only;rw[s1 h];exact c2,by dsimp only;omega,by dsimp only;rw[s1 h];exact c4,λi a b=>c5 i (by dsimp only at a;omega) b⟩ (by dsimp only;omega)⟩,λh=>⟨by omega,by omega,by omega,by omega,by omega,aX (q+1,j+1,cs.set q (ix cs ((k:Int)+((j:Int)+1)))) (by simp) (by simp[List.map_set]) ⟨by dsimp only;omega,by simp[c1],by dsimp only;rw[s2 h];simp;exact c2,by dsimp only;omega,?_,λi a b=>?_⟩ (by dsimp only;omega)⟩⟩
    ·dsimp only
     rw[s2 h,<-c4,nO,List.take_set_of_le (bA _),List.getElem?_set_self (by omega)]
     rfl
    ·dsimp only at a ⊢
     rw[zR (by omega) (by omega),ab (by omega)]
     exact c5 i (by omega) b
   ·simp[-ao,show ¬(j:Int)+1<((vs.length-k:Nat):Int)by omega]
    have hqn:q<=vs.length:=by omega
    have wE:k+j+1=vs.length:=by omega
    rw[wE]at c2 c4;refine⟨c1,hqn,?_⟩;rw[amD (B:=Lb cs) rfl (by simp[upto,al,c1]) ⟨by omega,by simp[c1];omega,rfl,rfl,rfl⟩]
    have jn:putAt (cs.map iL) q (eG (vs.length-q) [.ah])=(fQ vs).map iL++List.replicate (vs.length-q) .ah:=by
     unfold putAt;rw[<-List.map_take,c4,jJ (by simp[eG,c1];omega)]
     simp[eG,fQ]
    have GQ:(fQ vs).length=q:=by unfold fQ;exact c2.symm
    simp[jn,GQ];omega
  ·simp[hk]
   rw[show k.toNat=vs.length by omega]at k2
   rw[TV k2];simp
theorem amM:L Dd [.aE false [],.func zx [.bd (.func f [])]] []=some (.aE false [],[]):=by
 refine pb (Q1 rfl ?_);simp
theorem amN (ws:List (List Int)) (hl:(ws.length:Int)<=1000000) (hw:pA ws):PC IY [cO ws,.func f []]=some (cO (mO K ws)):=by
 refine cu (ajB rfl ?_)
 by_cases h0:ws=[]
 ·subst h0
  have e1:L zu [.aE false []] []=some (.aE false [],[]):=QZ (N:=0) rfl;have e2:L zw [.aE false [],.func f []] []=some (.bS [],[]):=Q0 (N:=0) rfl;have e3:=amM hF;simp[e1,e2,e3,jA];refine bu (λ_:Unit=>[]) (λ_=>[]) (λ_=>True) (λ_=>0) () rfl trivial λ_ _=>?_;simp[mO,fH,fQ,gy]
 ·have h1:fH K ws ≠ []:=λe=>h0 (dW (by rw[<-Fl (K:=K),e];rfl))
  have hlen:=Fl (K:=K) ws;have e1:=amG ws h0 hl;have e2:=amJ hF ws h0 hl hw;obtain⟨_,_,e3,rfl,rfl⟩:=dS (amL hF (fH K ws) h1 (by omega) (amF hw))
  rw[hlen]at e3;have vk:kP 0 (ws.map iL)=ws.map iL:=by
   have:∀k:List (List Int),kP 0 (k.map iL)=k.map iL:=λk=>by
    induction k with
    |nil=>rfl
    |cons a r ih=>simp only[dd,kP,jA,ih]
   exact this ws
  simp[e1,e2,e3,jA,gR,vk];have hk:=TS (fH K ws);rw[hlen]at hk;have fE:pA (fQ (fH K ws)):=λw h=>hw w (TR.1 h);show W L QQ.loop _ _;have hu:mO K ws=fQ (fH K ws):=rfl;rw[hu];generalize fQ (fH K ws)=cs at *;have hv:=T1 (σ:=[LB cs (ws.length-cs.length)]) (fr:=false) (b:=0) (u:=ws.length) (xs:=cs) (r:=ws.length-cs.length) (st:=.live) rfl (by simp) (by omega)
  refine bu (λi:Int=>[(4,.int i)]) (λ_=>[LB cs (ws.length-cs.length)]) (λi=>0<=i/\i<=cs.length) (λi=>(cs.length-i).toNat) 0 rfl (by omega) λi ⟨i0,i1⟩=>?_
  by_cases hi:i<cs.length
  ·have e4:=TU (ix cs i) (fE _ (aU i0 hi))
   have sr:=amH (xs:=cs) (r:=ws.length-cs.length) i0 hi;have eS:=amI (xs:=cs) (r:=ws.length-cs.length) i0 hi;simp[-ao,-List.map_append,hi,i0,hk,sr,e4,-Qn,↓al1,eS];exact⟨by omega,by omega,aX (i+1) (by simp) rfl (by omega) (by omega)⟩
  ·simp[hi,hv]
end
theorem T4 (ws:List (List Int)) (hl:(ws.length:Int)<=1000000) (hw:pA ws):PC CJ [cO ws]=some (cO (gC ws)):=by
 refine cu (ajy rfl ?_);simp[amN amC ws hl hw]
structure Bc (n:ak) (plc:List Int):Prop where
 len:plc.length=n.accept.length
 E9 : ∀i:Nat,i<n.bw.length->ix plc (ix n.bw (i:Int))=i
theorem uY{n:ak}(hn:n.Ok):n.tz n.bw:=λs hs=>by
 rcases tx.1 hs with rfl|⟨r,hr,hx⟩
 ·exact hn.start
 ·obtain⟨j,hj,e⟩:=fM.1 hr
  obtain⟨c,hc,e2⟩:=fM.1 hx;have ln:=hn.lens;have h1:=(hn.row j (by omega) (by omega)).1
  have h2:=hn.call j c (by omega) (by omega) (by omega) (by rw[aT hj,e]at h1;omega)
  rw[aT hj,e,aT hc,e2]at h2;exact h2
theorem J5{n:ak}:n.bw.Nodup:=List.Pairwise.imp (λh=>by omega) ame
theorem J6{n:ak}(hn:n.Ok):1<=n.bw.length/\n.bw.length<=128:=by
 have h1:=uY hn;have h2:=uQ n.accept.length J5 h1;have h3:n.start∈n.bw:=tx.2 (.inl rfl);have h4:=List.length_pos_of_mem h3;have h5:=hn.states;omega
def GW (n:ak) (plc:List Int):List ag:=[Zb plc,⟨some 0,[],.map [(.str (ff n.bw),.int 0)]⟩,⟨some 16,[.int n.calls,.int n.aj,.int n.aq,.int n.stack,.int n.start,bL n.accept,cO n.call,cO n.push,cO n.inner,fX n.pop,iL n.bw,.sl 0 plc.length 0 plc.length,.sl 3 1 0 1,.cQ 1,.ah,.ah],.live⟩,⟨none,[iL n.bw],.live⟩]
theorem amO (n:ak) (hn:n.Ok) (plc:List Int):L wT [.ptr 2 16 0,iL n.bw] [Zb plc,⟨some 0,[],.map []⟩,⟨some 16,[.int n.calls,.int n.aj,.int n.aq,.int n.stack,.int n.start,bL n.accept,cO n.call,cO n.push,cO n.inner,fX n.pop,iL n.bw,.sl 0 plc.length 0 plc.length,.ah,.cQ 1,.ah,.ah],.live⟩]=some (.int 0,GW n plc):=by
 refine pb (QU rfl ?_);have hl:=J6 hn;have ht:=JU n.bw (zX hn (uY hn)) (by omega)
 have qR:∀x,bg 1 (.str x)=true:=λ_=>rfl;simp[-ao,ht,cL,qR]
 rfl
theorem amP (n:ak) (hn:n.Ok):LX L I6 [n.av] [] (λr τ=>∃plc,Bc n plc/\r = .ptr 2 16 0/\τ=GW n plc):=by
 refine ais rfl ?_;have he:=amf n hn;have hl:=J6 hn;have hr:=uY hn;have bV:=hn.states;have gG:=TU n.bw (by omega)
 have Fm:=amO n hn;simp[-ao,-List.map_replicate,he];refine⟨by omega,rfl,?_⟩
 refine bu (λq:Nat×List Int=>[(3,.int q.1)]) (λq=>[Zb q.2,⟨some 0,[],.map []⟩,⟨some 16,[.int n.calls,.int n.aj,.int n.aq,.int n.stack,.int n.start,bL n.accept,cO n.call,cO n.push,cO n.inner,fX n.pop,iL n.bw,.sl 0 n.accept.length 0 n.accept.length,.ah,.cQ 1,.ah,.ah],.live⟩])
  (λq=>q.1<=n.bw.length/\q.2.length=n.accept.length/\∀j:Nat,j<q.1->ix q.2 (ix n.bw (j:Int))=j) (λq=>n.bw.length-q.1) (0,List.replicate n.accept.length 0) (by simp[bY,AV.cells]) ⟨by simp,by simp,λj h=>by dsimp only at h;omega⟩ ?_
 rintro⟨k,pl⟩ ⟨k0,k1,k2⟩;dsimp only at k0 k1 k2 ⊢
 by_cases hk:k<n.bw.length
 ·have hs:=hr _ (aU (l:=n.bw) (n:=(k:Int)) (by omega) (by omega))
  have sb:=bH (show ix n.bw (k:Int)<(pl.length:Int)by omega)
  have sc:=bH (show ix n.bw (k:Int)<(n.accept.length:Int)by omega)
  simp[-ao,hk,hs.1,sb,sc,k1];refine⟨by omega,aX (k+1,pl.set (ix n.bw (k:Int)).toNat k) (by simp) (by simp[List.map_set]) ⟨by dsimp only;omega,by simp[k1],λj hj=>?_⟩ (by dsimp only;omega)⟩
  dsimp only at hj ⊢;have L5:=hr _ (aU (l:=n.bw) (n:=(j:Int)) (by omega) (by omega))
  rw[zR L5.1 (by omega)]
  by_cases e:j=k
  ·subst e;rw[ae (by omega)]
  ·rw[ab,k2 j (by omega)]
   intro h;rw[aT (by omega),aT (by omega)]at h
   have h' : n.bw[j]=n.bw[k]:=by
    have:=hs.1;rw[aT (by omega)]at this
    omega
   exact e ((List.getElem_inj J5).1 h')
 ·have ek:k=n.bw.length:=by omega
  subst ek;have aru : PC uK [.aE false (n.bw.map .int)]=some (iL n.bw):=gG;have Fm:=Fm pl;rw[k1]at Fm;simp[-ao,gG,Fm];exact⟨pl,⟨k1,k2⟩,rfl⟩
def oy (n:ak) (plc:List Int):Vd:=⟨n,plc,[n.bw],[],[]⟩
theorem amQ{n:ak}(hn:n.Ok){plc:List Int}(hp:Bc n plc):tD (oy n plc):=by
 have hl:=J6 hn;refine⟨hn,λk hk=>?_,hl.2,λs c s0 s1 c0 c1=>?_⟩
 ·have:k=n.bw:=by simpa[oy]using hk
  subst this;exact⟨uY hn,rfl⟩
 ·have hm:ix (ix n.call s) c∈n.bw:=by
   have rO:=(hn.row s s0 s1).1;have ln:=hn.lens;exact tx.2 (.inr ⟨_,aU s0 (show s<(n.call.length:Int)by have:s<(n.accept.length:Int):=s1;omega),aU c0 (by have:c<n.calls:=c1;omega)⟩)
  have hr:=uY hn _ hm;obtain⟨i,hi,e⟩:=fM.1 hm;have:=hp.E9 i hi;rw[aT hi,e]at this;have hZ:=hp.len;show ix (ix n.call s) c<(plc.length:Int)/\0<=ix plc (ix (ix n.call s) c)/\ix plc (ix (ix n.call s) c)<(n.bw.length:Int);rw[this];omega
def p0:Tg->Nat
 |.pl=>1
 |.mp=>2
 |.v=>3
 |.ls=>4
 |.aR=>0
 |.bl=>0
 |.rw _=>0
 |.cl _ _=>0
 |.old i=>i
theorem vs0 (n:ak) (plc:List Int) (A:ag):VS (oy n plc) (λi=>if i=0 then some A else none) p0 (A::(GW n plc).map (gR 1)):=by
 have sn:∀l:List Int,kP 1 (l.map .int)=l.map .int:=E8;refine⟨λt B hB=>?_,λt u X Y hX hY e=>?_,λi=>rfl⟩
 ·cases t with
  |v=>
   have:B=(oy n plc).box p0:=by simpa[Vd.cont]using hB.symm
   subst this;simp[GW,p0,al,gR,kP,jA,Vd.box,oy,cT]
  |pl=>
   have:B=Zb plc:=by simpa[Vd.cont,oy]using hB.symm
   subst this;simp[GW,p0,al,gR,sn]
  |mp=>
   have:B=⟨some 0,[],.map (qQ 0 [n.bw])⟩:=by simpa[Vd.cont,oy]using hB.symm
   subst this;simp[GW,p0,al,gR,qQ,pN,M3,kP,jA]
  |ls=>
   have:B=⟨none,[iL n.bw],.live⟩:=by simpa[Vd.cont,oy]using hB.symm
   subst this;simp[GW,p0,al,gR,kP,jA]
  |aR=>simp[Vd.cont,oy]at hB
  |bl=>simp[Vd.cont,oy]at hB
  |rw x=>simp[Vd.cont,oy]at hB
  |cl x c=>simp[Vd.cont,oy]at hB
  |old i=>
   have hB:(if i=0 then some A else none)=some B:=hB
   split at hB
   ·rename_i h;subst h;exact hB
   ·simp at hB
 ·have nz:∀i,(oy n plc).cont (λi=>if i=0 then some A else none) p0 (.old i)=none\/i=0:=λi=>by
   by_cases h:i=0
   ·exact .inr h
   ·left;simp[Vd.cont,h]
  cases t<;>cases u<;>first
   |rfl
   |(simp[Vd.cont,oy]at hX;done)
   |(simp[Vd.cont,oy]at hY;done)
   |(simp[p0]at e;done)
   |(simp[p0]at e;subst e;rfl)
   |(rename_i i;rcases nz i with h|h
     ·first|(rw[h]at hX;simp at hX;done)|(rw[h]at hY;simp at hY;done)
     ·subst h;simp[p0]at e)
def Bd (k:Int):List Int:=[k%256,(k/256)%256]
def dm (l:List Int):List Int:=l.flatMap Bd
abbrev bK (bs:List Int):List AV:=bs.map (AV.ik 4)
theorem amR{l:List Int}{a:Int}:dm (l ++ [a])=dm l ++ [a%256,(a/256)%256]:=by simp[dm,Bd]
theorem T5{l m:List Int}:dm (l++m)=dm l++dm m:=by simp[dm]
theorem Fo:∀l:List Int,(dm l).length=2*l.length
 | []=>rfl
 |a::l=>by
  have:=Fo l;simp only[dm,Bd,jG,bz,cy,dF]at this ⊢;omega
abbrev Fp (bs:List Int):List ag:=[⟨none,bK bs,.live⟩,⟨none,[.sl 0 bs.length 0 bs.length],.live⟩]
theorem Aa (cls l bs:List Int) (hl:∀y∈l,0<=y/\y<(cls.length:Int)) (hb:bs ≠ []) (hlen:bs.length+2*l.length<=100000000) :
  L CB [iL l,.ptr 1 1 0,.bd (iL cls)] (Fp bs)=some (.bS [],Fp (bs++dm (l.map (ix cls)))):=by
 refine pb (ajw rfl ?_);simp[-ao,-List.map_append];refine bu (λk:Nat=>[(3,.int k)]) (λk=>Fp (bs++dm ((l.take k).map (ix cls)))) (λk=>k<=l.length) (λk=>l.length-k) 0 (by simp[bY,dm]) (by omega) ?_
 intro k k0
 by_cases hk:k<l.length
 ·have hs:=hl _ (aU (l:=l) (n:=(k:Int)) (by omega) (by omega))
  have tk:=lj hk;have T6:=Fo ((l.take k).map (ix cls));have mc:min k l.length=k:=q8 (by omega)
  simp only[dR,mB,mc]at T6;have e2:dm ((l.take (k+1)).map (ix cls))=dm ((l.take k).map (ix cls)) ++ [ix cls (ix l (k:Int))%256,(ix cls (ix l (k:Int))/256)%256]:=by rw[tk,lg,dd,List.map_nil,amR]
  have vZ:(ix cls (ix l (k:Int))).fdiv 256=ix cls (ix l (k:Int))/256:=Int.fdiv_eq_ediv_of_nonneg _ (by omega)
  generalize dm ((l.take k).map (ix cls))=B at *;simp[-ao,-List.map_append,hk,hs.1,hs.2];refine⟨by omega,by omega,aX (k+1) (by simp) ?_ (by omega) (by omega)⟩
  rw[<-List.map_take,e2,vZ];simp[Nat.add_assoc]
 ·have ek:k=l.length:=by omega
  subst ek;simp[-ao,-List.map_append]
structure jQ (D:Vd):Prop where
 f:Full D
 k:0<D.K.length
 c:0<=D.n.calls/\D.n.calls<=64
 n:0<=D.n.aj/\D.n.aj<=64
 r:0<=D.n.aq/\D.n.aq<=64
 rl:∀x:Nat,x<D.K.length->(D.row x).length=D.n.calls.toNat
 inl:∀x:Nat,x<D.K.length->(ix D.IN (x:Int)).length=D.n.aj.toNat/\∀y∈ix D.IN (x:Int),0<=y/\y<(D.K.length:Int)
 rQ:∀x c y:Nat,x<D.K.length->c<D.n.calls.toNat->y<D.K.length->(ix (D.bX x c) (y:Int)).length=D.n.aq.toNat/\∀z∈ix (D.bX x c) (y:Int),0<=z/\z<(D.K.length:Int)
def Vd.w9 (D:Vd) (cls:List Int) (x c y:Nat):List Int:=(ix (D.bX x c) (y:Int)).map (ix cls)++(ix (D.bX y c) (x:Int)).map (ix cls)
def Vd.mP (D:Vd) (cls:List Int) (x c k:Nat):List Int:=(List.range k).flatMap λy=>D.w9 cls x c y
def Vd.jR (D:Vd) (cls:List Int) (x j:Nat):List Int:=ix cls (x:Int)::(ix D.IN (x:Int)).map (ix cls)++(List.range j).flatMap λc=>D.mP cls x c D.K.length
theorem T7{D:Vd}{cls:List Int}{x c k:Nat}:D.mP cls x c (k+1)=D.mP cls x c k++((ix (D.bX x c) (k:Int)).map (ix cls)++(ix (D.bX k c) (x:Int)).map (ix cls)):=by
 simp[Vd.mP,Vd.w9,mI]
theorem T8{D:Vd}{cls:List Int}{x j:Nat}:D.jR cls x (j+1)=D.jR cls x j++D.mP cls x j D.K.length:=by
 simp[Vd.jR,mI]
theorem J7{D:Vd}(h:jQ D){cls:List Int}{x c:Nat}(hx:x<D.K.length) (hc:c<D.n.calls.toNat):∀{k:Nat},k<=D.K.length->(D.mP cls x c k).length<=k*128
 |0,_=>by simp[Vd.mP]
 |k+1,hk=>by
  have:=J7 h hx hc (cls:=cls) (k:=k) (by omega)
  rw[T7];have h1:=(h.rQ x c k hx hc (by omega)).1
  have h2:=(h.rQ k c x (by omega) hc hx).1
  have h3:=h.r;simp only[bz,dR];omega
theorem T9{D:Vd}(h:jQ D){cls:List Int}{x:Nat}(hx:x<D.K.length):∀{j:Nat},j<=D.n.calls.toNat->(D.jR cls x j).length<=65+j*65536
 |0,_=>by have:=(h.inl x hx).1;have:=h.n;simp[Vd.jR];omega
 |j+1,hj=>by
  have:=T9 h hx (cls:=cls) (j:=j) (by omega)
  rw[T8,bz];have h1:=J7 h (cls:=cls) hx (c:=j) (by omega) (bA D.K.length)
  have:=h.f.k;omega
theorem amS (D:Vd) (h:jQ D) (cls:List Int) (gG:cls.length=D.K.length) (x:Nat) (hx:x<D.K.length):PC EH [D.vcs.av,iL cls,.int x]=some (.aE false (bK (dm (D.jR cls x D.n.calls.toNat)))):=by
 refine cu (ajm rfl ?_);have hf:=h.f;have Be:=hf.k;have AY:=hf.i;have hfb:=hf.b;have eZ:=h.inl x hx;have lL:=h.c;have wE:=h.n;have GH:=h.r;have JY:=bH (show(x:Int)<(cls.length:Int)by omega)
 have AX:=bH (show(x:Int)<(D.IN.length:Int)by omega)
 have AQ:=bH (show(x:Int)<(D.BL.length:Int)by omega)
 have jD:=Aa cls (ix D.IN (x:Int)) [ix cls (x:Int)%256,ix cls (x:Int)/256%256] (λy hy=>by rw[gG];exact eZ.2 y hy) (by simp) (by simp;omega)
 have vZ:(ix cls (x:Int)).fdiv 256=ix cls (x:Int)/256:=Int.fdiv_eq_ediv_of_nonneg _ (by omega)
 have amT : L CB [.aE false ((ix D.IN (x:Int)).map .int),.ptr 1 (aC none) 0,.bd (.aE false (cls.map .int))] [⟨none,sZ [.ik 4 (ix cls (x:Int)%256),.ik 4 (ix cls (x:Int)/256%256)],.live⟩,⟨none,[.sl 0 2 0 2],.live⟩]=some (.bS [],Fp (dm (D.jR cls x 0))):=by
  have e:dm (D.jR cls x 0)=[ix cls (x:Int)%256,ix cls (x:Int)/256%256]++dm ((ix D.IN (x:Int)).map (ix cls)):=by simp[Vd.jR,dm,Bd]
  rw[e];exact jD
 simp[-ao,-List.map_append,JY,AX,AQ,vZ,amT];refine bu (λc:Nat=>[(6,.int c)]) (λc=>Fp (dm (D.jR cls x c))) (λc=>c<=D.n.calls.toNat) (λc=>D.n.calls.toNat-c) 0 (by simp[bY]) (by omega) ?_
 intro c c0;have lD:=T9 h (cls:=cls) hx c0
 by_cases hc:c<D.n.calls.toNat
 ·have r9:=bH (show(c:Int)<D.n.calls by omega)
  simp[-ao,-List.map_append,r9];have ez:Fp (dm (D.jR cls x c))=Fp (dm (D.jR cls x c++D.mP cls x c 0)):=by simp[Vd.mP]
  refine bu (λy:Nat=>[(8,.int y)]) (λy=>Fp (dm (D.jR cls x c++D.mP cls x c y))) (λy=>y<=D.K.length) (λy=>D.K.length-y) 0 (by rw[<-ez];simp[bY]) (by omega) ?_
  intro y y0;have arv:=J7 h (cls:=cls) hx hc y0
  by_cases hy:y<D.K.length
  ·have e0:=T7 (D:=D) (cls:=cls) (x:=x) (c:=c) (k:=y)
   have mL:=h.rQ x c y hx hc hy;have A6:=h.rQ y c x hy hc hx;have b8:dm (D.jR cls x c++D.mP cls x c y) ≠ []:=by simp[Vd.jR,dm,Bd]
   have sd:=Fo (D.jR cls x c++D.mP cls x c y);rw[bz]at sd;have hq1:=Aa cls (ix (D.bX x c) (y:Int)) (dm (D.jR cls x c++D.mP cls x c y)) (λz hz=>by rw[gG];exact mL.2 z hz) b8 (by omega)
   rw[<-T5]at hq1;have lY:=Fo (D.jR cls x c++D.mP cls x c y++(ix (D.bX x c) (y:Int)).map (ix cls));rw[bz,bz,dR]at lY;have GQ:=Aa cls (ix (D.bX y c) (x:Int)) (dm (D.jR cls x c++D.mP cls x c y++(ix (D.bX x c) (y:Int)).map (ix cls))) (λz hz=>by rw[gG];exact A6.2 z hz) (by simp[Vd.jR,dm,Bd]) (by omega)
   rw[<-T5]at GQ;have e1:D.jR cls x c++D.mP cls x c y++(ix (D.bX x c) (y:Int)).map (ix cls)++(ix (D.bX y c) (x:Int)).map (ix cls)=D.jR cls x c++D.mP cls x c (y+1):=by rw[e0];simp
   rw[e1]at GQ;have hy1:=bH (show(y:Int)<(D.BL.length:Int)by omega)
   have hy2:=bH (show(y:Int)<(D.K.length:Int)by omega)
   have AZ:=bH (show(c:Int)<((ix D.BL (x:Int)).length:Int)by have:=h.rl x hx;unfold Vd.row at this;omega)
   have A0:=bH (show(c:Int)<((ix D.BL (y:Int)).length:Int)by have:=h.rl y hy;unfold Vd.row at this;omega)
   have L6:=bH (show(y:Int)<((ix (ix D.BL (x:Int)) (c:Int)).length:Int)by have:=hf.c x c hx hc;unfold Vd.bX Vd.row at this;omega)
   have oq:=bH (show(x:Int)<((ix (ix D.BL (y:Int)) (c:Int)).length:Int)by have:=hf.c y c hy hc;unfold Vd.bX Vd.row at this;omega)
   generalize dm (D.jR cls x c++D.mP cls x c y++(ix (D.bX x c) (y:Int)).map (ix cls))=M at *;unfold Vd.bX Vd.row at hq1 GQ;generalize dm (D.jR cls x c++D.mP cls x c y)=B at *;simp[-ao,-List.map_append,hy2,hy1,AQ,AZ,A0,L6,oq,hq1,GQ];exact⟨by omega,aX (y+1) (by simp) rfl (by omega) (by omega)⟩
  ·have ey:y=D.K.length:=by omega
   subst ey;have e3:=T8 (D:=D) (cls:=cls) (x:=x) (j:=c);simp[-ao,-List.map_append,hy];exact⟨by omega,aX (c+1) (by simp) (by rw[e3]) (by omega) (by omega)⟩
 ·have ec:c=D.n.calls.toNat:=by omega
  have r9:=gl (show ¬(c:Int)<D.n.calls by omega)
  simp[-ao,-List.map_append,r9];have pL:view (Fp (dm (D.jR cls x c))) false vd (.sl 0 (dm (D.jR cls x c)).length 0 (dm (D.jR cls x c)).length)=some (.aE false (bK (dm (D.jR cls x c)))):=gx (k:=11) (f:=AV.ik 4) (g:=AV.ik 4) (st:=.live) rfl rfl rfl λ_ _=>rfl;rw[pL,ec]
  rfl
def Vd.Bg (D:Vd) (cls:List Int) (x:Nat):List Int:=dm (D.jR cls x D.n.calls.toNat)
def Vd.jg (D:Vd) (cls:List Int):List (List Int):=(List.range D.K.length).map (D.Bg cls)
theorem Fq:∀{l:List Int},dC (dm l)
 | [],x,hx=>by simp[dm]at hx
 |a::l,x,hx=>by
  simp only[dm,Bd,jG,eH,cD,List.not_mem_nil,or_false]at hx;rcases hx with(rfl|rfl)|hx
  ·omega
  ·omega
  ·exact Fq (l:=l) x hx
theorem Ac:∀w:List Int,fitAll (aC none) (bK w)=true
 | []=>rfl
 |a::w=>by
  have:=Ac w;simp only[bK,dd,fitAll]at this ⊢;rw[this];rfl
theorem J8:∀w:List Int,(bK w).flatMap AV.cells=bK w
 | []=>rfl
 |a::w=>by
  have:=J8 w;simp only[bK,dd,jG]at this ⊢;rw[this];rfl
theorem Fs:∀(i:Nat) (K:List (List Int)),(qQ i K).length=K.length
 |_,[]=>rfl
 |i,k::K=>by simp only[qQ,cy,Fs (i+1) K]
theorem J9{α:Type}{A:List α}{x k:Nat}{z v:α}(h:A.length=x):(A++List.replicate (k+1) z).set x v=A ++ [v]++List.replicate k z:=by
 subst h;rw[List.set_append,ab (by omega),Nat.sub_self]
 simp[ug]
theorem amU (D:Vd) (h:jQ D) (cls:List Int) (gG:cls.length=D.K.length):PC Jj [D.vcs.av,iL cls]=some (.bS [iL (idxs (aH [] (D.jg cls)) (D.jg cls)),.int (aH [] (D.jg cls)).length]):=by
 refine cu (aiZ rfl ?_);have Be:=h.f.k;have gB:(D.jg cls).length=D.K.length:=by simp[Vd.jg]
 have qR:∀x,bg 1 (.str x)=true:=λ_=>rfl;simp[-ao,-List.map_replicate];refine⟨by omega,?_⟩
 refine bu (λx:Nat=>[(2,.int x)]) (λx=>[⟨some 0,[],.map (qQ 0 (aH [] ((D.jg cls).take x)))⟩,Zb (idxs (aH [] ((D.jg cls).take x)) ((D.jg cls).take x)++List.replicate (cls.length-x) 0)]) (λx=>x<=cls.length) (λx=>cls.length-x) 0 (by simp[bY,aH,idxs,qQ]) (by omega) ?_
 intro x x0
 by_cases hx:x<cls.length
 ·have hs:=amS D h cls gG x (by omega)
  have tk:=lj (w:=D.jg cls) (k:=x) (by omega)
  have e1:ix (D.jg cls) (x:Int)=D.Bg cls x:=by
   unfold Vd.jg;rw[jx (by omega) (by simp;omega),aT (show x<(List.range D.K.length).length by simp;omega)]
   simp
  have hb:=EU (l:=D.Bg cls x) Fq;have hk:∀k∈aH [] ((D.jg cls).take x),dC k:=Fb (by simp) λv hv=>by
   obtain⟨y,_,rfl⟩:=cU.1 (List.mem_of_mem_take hv);exact Fq
  have AY:=wX (l:=D.Bg cls x) Fq 0 _ hk;have dY:=Fc (K:=[]) (vs:=(D.jg cls).take x) (l:=D.Bg cls x);have Gm:=zV (K:=[]) (vs:=(D.jg cls).take x) (l:=D.Bg cls x);rw[e1]at tk;have Xg:(idxs (aH [] ((D.jg cls).take x)) ((D.jg cls).take x)).length=x:=by simp[idxs];omega
  have gV : PC EH [D.vcs.av,iL cls,.int x]=some (.aE false (bK (D.Bg cls x))):=hs;clear hs;generalize D.Bg cls x=w at *;generalize hV:(D.jg cls).take x=V at *;have hxi:=bH (show(x:Int)<(cls.length:Int)by omega)
  by_cases hm:w∈aH [] V
  ·rw[ae hm]at AY
   have NT:iB (aH [] V) w=aH [] V:=ae hm;rw[NT]at Gm;generalize hKK:aH [] V=KK at *;simp[-ao,-List.map_append,-List.map_replicate,hxi,gV, Ac,J8,hb,AY,qR,Fs];refine⟨Ac w,by omega,by omega,by omega,aX (x+1) (by simp) ?_ (by omega) (by omega)⟩
   rw[Gm]at dY;rw[<-List.map_set,tk,Gm,dY,show cls.length-x=(cls.length-(x+1))+1 by omega,J9 (by simpa using Xg)]
  ·rw[ab hm]at AY
   have NT:iB (aH [] V) w=aH [] V ++ [w]:=ab hm;rw[NT]at Gm;generalize hKK:aH [] V=KK at *;simp[-ao,-List.map_append,-List.map_replicate,hxi,gV, Ac,J8,hb,AY,qR,Fs];have ql:KK.idxOf w=KK.length:=List.idxOf_eq_length hm;refine⟨Ac w,by omega,by omega,by omega,aX (x+1) (by simp) ?_ (by omega) (by omega)⟩
   rw[Gm]at dY;rw[<-List.map_set,tk,Gm,dY,show cls.length-x=(cls.length-(x+1))+1 by omega,J9 (by simpa using Xg),Fa,ql]
   simp
 ·have ex:x=cls.length:=by omega
  subst ex;rw[gu (by omega)]
  have pL:view [⟨some 0,[],.map (qQ 0 (aH [] (D.jg cls)))⟩,Zb (idxs (aH [] (D.jg cls)) (D.jg cls))] false vd (.sl 1 cls.length 0 cls.length)=some (iL (idxs (aH [] (D.jg cls)) (D.jg cls))):=qP (st:=.live) rfl rfl (by simp[idxs];omega)
  simp[-ao,-List.map_append,-List.map_replicate,pL,Fs]
def Vd.ac (D:Vd) (st x:Int):Bool:=ix D.n.accept (ix (ix D.K x) st)
def Vd.im (D:Vd) (x i:Int):Int:=ix (ix D.IN x) i
def Vd.bk (D:Vd) (x c y r:Int):Int:=ix (ix (ix (ix D.BL x) c) y) r
inductive xa (D:Vd) (st:Int):Int->Int->Prop
 |acc (x y:Int):D.ac st x ≠ D.ac st y->xa D st x y
 |aR (x y i:Int):0<=i->i<D.n.aj->xa D st (D.im x i) (D.im y i)->xa D st x y
 |bl (x y c z r:Int):0<=c->c<D.n.calls->0<=z->z<(D.K.length:Int)->0<=r->r<D.n.aq->xa D st (D.bk x c z r) (D.bk y c z r)->xa D st x y
 |br (x y c z r:Int):0<=c->c<D.n.calls->0<=z->z<(D.K.length:Int)->0<=r->r<D.n.aq->xa D st (D.bk z c x r) (D.bk z c y r)->xa D st x y
theorem Ua:∀{l m:List Int},(∀x∈l,0<=x/\x<=65535)->(∀x∈m,0<=x/\x<=65535)->dm l=dm m->l=m
 | [],[],_,_,_=>rfl
 | [],b::m,_,_,h=>by simp[dm,Bd]at h
 |a::l,[],_,_,h=>by simp[dm,Bd]at h
 |a::l,b::m,h1,h2,h=>by
  simp only[dm,Bd,jG,lf,rf,List.cons.injEq]at h;have ha:=h1 a (by simp)
  have hb:=h2 b (by simp)
  rw[Ua (λx hx=>h1 x (by simp[hx])) (λx hx=>h2 x (by simp[hx])) h.2.2,show a=b by omega]
theorem Ad{α β:Type}{f g:α->List β}:∀{l:List α},(∀i∈l,(f i).length=(g i).length)->(l.flatMap f=l.flatMap g↔∀i∈l,f i=g i)
 | [],_=>by simp
 |a::l,h=>by
  have ih:=Ad (l:=l) λi hi=>h i (by simp[hi])
  simp only[jG,cD,forall_eq_or_imp,<-ih];exact⟨λe=>List.append_inj e (h a (by simp)),λe=>by rw[e.1,e.2]⟩
theorem Ft{cls l m:List Int}(hl:l.length=m.length):l.map (ix cls)=m.map (ix cls)↔∀i:Int,0<=i->i<(l.length:Int)->ix cls (ix l i)=ix cls (ix m i):=by
 constructor
 ·intro e i i0 i1
  have h1:=jx (f:=ix cls) (l:=l) i0 i1;have h2:=jx (f:=ix cls) (l:=m) i0 (by omega)
  rw[<-h1,<-h2,e]
 ·intro h
  refine zK (by simpa using hl) λi i0 i1=>?_
  simp at i1;rw[jx i0 i1,jx i0 (by omega)]
  exact h i i0 i1
structure Fu (D:Vd) (cls:List Int) (x y:Int):Prop where
 e:ix cls x=ix cls y
 i:∀i,0<=i->i<D.n.aj->ix cls (D.im x i)=ix cls (D.im y i)
 l:∀c z r,0<=c->c<D.n.calls->0<=z->z<(D.K.length:Int)->0<=r->r<D.n.aq->ix cls (D.bk x c z r)=ix cls (D.bk y c z r)
 r:∀c z r,0<=c->c<D.n.calls->0<=z->z<(D.K.length:Int)->0<=r->r<D.n.aq->ix cls (D.bk z c x r)=ix cls (D.bk z c y r)
theorem amV{D:Vd}(h:jQ D){cls:List Int}{x y:Nat}(hx:x<D.K.length) (hy:y<D.K.length):D.jR cls x D.n.calls.toNat=D.jR cls y D.n.calls.toNat↔Fu D cls x y:=by
 have ql:=(h.inl x hx).1;have hiy:=(h.inl y hy).1;have hr:=h.r;have hn:=h.n;have sd:∀c,c<D.n.calls.toNat->∀z,z<D.K.length->(D.w9 cls x c z).length=(D.w9 cls y c z).length:=λc hc z hz=>by
  simp only[Vd.w9,bz,dR,(h.rQ x c z hx hc hz).1,(h.rQ y c z hy hc hz).1,(h.rQ z c x hz hc hx).1,(h.rQ z c y hz hc hy).1]
 have lY:∀c,c<D.n.calls.toNat->(D.mP cls x c D.K.length).length=(D.mP cls y c D.K.length).length:=λc hc=>by
  simp only[Vd.mP,List.length_flatMap]
  congr 1
  exact gk λz hz=>sd c hc z (cA.1 hz)
 have k1:D.jR cls x D.n.calls.toNat=D.jR cls y D.n.calls.toNat↔ix cls (x:Int)=ix cls (y:Int)/\(ix D.IN (x:Int)).map (ix cls)=(ix D.IN (y:Int)).map (ix cls)/\∀c∈List.range D.n.calls.toNat,D.mP cls x c D.K.length=D.mP cls y c D.K.length:=by
  rw[<-Ad λc hc=>lY c (cA.1 hc)];unfold Vd.jR;simp only[lf,List.cons.injEq];exact⟨λe=>⟨e.1,List.append_inj e.2 (by simp;omega)⟩,λe=>⟨e.1,by rw[e.2.1,e.2.2]⟩⟩
 have k2:∀c,c<D.n.calls.toNat->(D.mP cls x c D.K.length=D.mP cls y c D.K.length↔∀z∈List.range D.K.length,D.w9 cls x c z=D.w9 cls y c z):=λc hc=>Ad λz hz=>sd c hc z (cA.1 hz);have k3:∀c,c<D.n.calls.toNat->∀z,z<D.K.length->(D.w9 cls x c z=D.w9 cls y c z↔(∀r,0<=r->r<D.n.aq->ix cls (D.bk x c z r)=ix cls (D.bk y c z r))/\∀r,0<=r->r<D.n.aq->ix cls (D.bk z c x r)=ix cls (D.bk z c y r)):=λc hc z hz=>by
  have a1:=(h.rQ x c z hx hc hz).1;have a2:=(h.rQ y c z hy hc hz).1;have a3:=(h.rQ z c x hz hc hx).1;have a4:=(h.rQ z c y hz hc hy).1;have e1:D.w9 cls x c z=D.w9 cls y c z↔(ix (D.bX x c) (z:Int)).map (ix cls)=(ix (D.bX y c) (z:Int)).map (ix cls)/\(ix (D.bX z c) (x:Int)).map (ix cls)=(ix (D.bX z c) (y:Int)).map (ix cls):=by
   unfold Vd.w9;exact⟨λe=>List.append_inj e (by simp;omega),λe=>by rw[e.1,e.2]⟩
  rw[e1,Ft (by omega),Ft (by omega),a1,a3,show((D.n.aq.toNat:Nat):Int)=D.n.aq by omega]
  exact Iff.rfl
 rw[k1];constructor
 ·rintro⟨e1,e2,e3⟩
  have q:=λc hc z hz=>(k3 c hc z hz).1 ((k2 c hc).1 (e3 c (cA.2 hc)) z (cA.2 hz));refine⟨e1,λi i0 i1=>(Ft (by omega)).1 e2 i i0 (by omega),λc z r c0 c1 z0 z1 r0 r1=>?_,λc z r c0 c1 z0 z1 r0 r1=>?_⟩
  ·have:=(q c.toNat (by omega) z.toNat (by omega)).1 r r0 r1
   rwa [show((c.toNat:Nat):Int)=c by omega,show((z.toNat:Nat):Int)=z by omega]at this
  ·have:=(q c.toNat (by omega) z.toNat (by omega)).2 r r0 r1
   rwa [show((c.toNat:Nat):Int)=c by omega,show((z.toNat:Nat):Int)=z by omega]at this
 ·intro g
  refine⟨g.e,(Ft (by omega)).2 λi i0 i1=>g.i i i0 (by omega),λc hc=>?_⟩
  have ga :=cA.1 hc;refine(k2 c ga).2 λz hz=>(k3 c ga z (cA.1 hz)).2 ⟨λr r0 r1=>g.l c z r (by omega) (by omega) (by omega) (by have:=cA.1 hz;omega) r0 r1,λr r0 r1=>g.r c z r (by omega) (by omega) (by omega) (by have:=cA.1 hz;omega) r0 r1⟩
end Ab
