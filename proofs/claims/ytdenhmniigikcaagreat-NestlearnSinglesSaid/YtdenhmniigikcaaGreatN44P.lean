/- Comparisons, sorted words, in memory; and what it leans on. Condition: none. -/
import Derived.Test.YtdenhmniigikcaaGreatBfsOrd
import Derived.Test.YtdenhmniigikcaaGreatN44J
import Derived.Test.YtdenhmniigikcaaGreatCan
set_option linter.all false
set_option maxRecDepth 100000
set_option maxHeartbeats 4000000
namespace Ab
def cI (x y:Int):Int:=if x<y then -1 else if y<x then 1 else 0
def amx (x:Int):PC CL [.int x]=some (.bool false):=by
 refine bZ (aj3 rfl ?_);simp
def TL (x y:Int):PC CG [.int x,.int y]=some (.int (cI x y)):=by
 refine bZ (ajz rfl ?_);simp[amx];refine⟨λh=>by simp[cI,h],λh=>⟨λk=>?_,λk=>?_⟩⟩
 .simp[cI,k];omega
 .simp[cI];omega
def amy (x y:Int):PC JD [.aF false [.int x,.int y]]=some (.int (if x=0 then y else x)):=by
 refine bZ (ajy rfl ?_);have e:(.aF false [.int x,.int y]:AV)=iL [x,y]:=rfl;rw[e];simp only[iL];generalize b:[x,y]=l;have hlen:l.length=2:=by rw[<-b];rfl
 simp[hlen];refine aK (λi:Int=>[(1,.int i)]) (λ_=>[]) (λi=>0<=i/\i<=2/\∀j,0<=j->j<i->ix l j=0) (λi=>(2-i).toNat) 0 rfl ⟨aa,aa,r5⟩ λi ⟨o,i1,a⟩=>?_
 have e0:ix l 0=x:=by rw[<-b];rfl
 have d:ix l 1=y:=by rw[<-b];rfl
 by_cases g:i<2
 .simp[-aj,g,o,hlen]
  refine⟨λh=>⟨aa,aD (i+1) rfl rfl ⟨aa,aa,lN h a⟩ aa⟩,λh=>?_⟩
  by_cases e:i=0
  .subst e;rw[e0]at h ⊢;simp[h]
  .have:i=1:=by omega
   subst this;have:=a 0 aa aa
   rw[e0]at this;rw[d];simp[this]
 .have m:=a 0 aa aa
  have n:=a 1 aa aa
  rw[e0]at m;rw[d]at n;simp[g,m,n]
def amz{a b:List Int}{i:Int}(d:0<=i) (e:i<a.length) (g:i<b.length):cy (a.drop i.toNat) (b.drop i.toNat)=if cI (ix a i) (ix b i)=0 then cy (a.drop (i+1).toNat) (b.drop (i+1).toNat)else cI (ix a i) (ix b i):=by
 rw[BY d e,BY d g];unfold cI;simp only[cy];split
 .simp
 .split<;>simp
def amA (a b:List Int) (m:(a.length:Int)<=9223372036854775807) (n:(b.length:Int)<=9223372036854775807):PC JE [iL a,iL b]=some (.int (cy a b)):=by
 refine bZ (ajA rfl ?_);simp;refine aK (λi:Int=>[(2,.int i)]) (λ_=>[]) (λi=>0<=i/\i<=a.length/\i<=b.length/\cy (a.drop i.toNat) (b.drop i.toNat)=cy a b) (λi=>(a.length-i).toNat) 0 rfl ⟨aa,aa,aa,rfl⟩ λi ⟨g,i1,o,d⟩=>?_
 by_cases j:i<a.length
 .by_cases l:i<b.length
  .have e:=amz g j l
   rw[d]at e;simp[-aj,j,l,g,TL,show ¬(b.length:Int)<=i by omega]
   refine⟨λh=>⟨aa,aD (i+1) rfl rfl ⟨aa,aa,aa,by rw[ae h]at e;exact e.symm⟩ aa⟩,λh=>by rw[ad h]at e;exact e.symm⟩
  .have e:b.drop i.toNat=[]:=GI aa
   rw[e,BY g j]at d;have d:(1:Int)=cy a b:=d;simp[-aj,j,l,g,show(b.length:Int)<=i by omega]
   exact d
 .have e:a.drop i.toNat=[]:=GI aa
  rw[e]at d;simp[j]
  by_cases l:i<b.length
  .rw[BY g l]at d
   have d:(-1:Int)=cy a b:=d;exact⟨λ_=>d,λh=>aa⟩
  .rw[GI aa]at d
   have d:(0:Int)=cy a b:=d;exact⟨λh=>aa,λ_=>d⟩
def Dl (a b:List Int) (d:(a.length:Int)<=9223372036854775807) (e:(b.length:Int)<=9223372036854775807):PC pB [iL a,iL b]=some (.int (aI a b)):=by
 refine bZ (aiZ rfl ?_);simp[TL,amA a b d e,amy];unfold aI cI
 (repeat' split)<;>first|rfl|omega
abbrev ES:=List Int->List Int->Int
section
variable{K:ES}
def xm (K:ES) (x:List Int):List (List Int)->List (List Int)
 | []=>[x]
 |y::r=>if K x y<=0 then x::y::r else y::xm K x r
def fP (K:ES):List (List Int)->List (List Int)
 | []=>[]
 |x::r=>xm K x (fP K r)
def TM (x:List Int):∀l:List (List Int),rB K (iL x) (l.map iL)=(xm K x l).map iL
 | []=>rfl
 |y::r=>by
  have e:ua K (iL x) (iL y)=decide (K x y<=0):=by
   unfold ua;rw[show cd (iL x)=some x from wE x,show cd (iL y)=some y from wE y]
  simp only[cS,rB,xm,e,TM x r]
  by_cases h:K x y<=0<;>simp[h]
def TN:∀l:List (List Int),ee K (l.map iL)=(fP K l).map iL
 | []=>rfl
 |x::r=>by simp only[cS,ee,fP,TN r,TM]
def TP (x:List Int):∀l,(xm K x l).Perm (x::l)
 | []=>.refl _
 |y::r=>by
  unfold xm;split
  .exact .refl _
  .exact((TP x r).cons y).trans (.swap x y r)
def Dn:∀l,(fP K l).Perm l
 | []=>.refl _
 |x::r=>(TP x _).trans ((Dn r).cons x)
def gE (l:List (List Int)):Nat->List (List Int)
 |0=>[]
 |n+1=>if 0<n/\ix l (n:Int)=ix l ((n:Int)-1)then gE l n else gE l n ++ [ix l (n:Int)]
def fY (l:List (List Int)):List (List Int):=gE l l.length
def TQ (l:List (List Int)):∀n,(gE l n).length<=n
 |0=>by simp[gE]
 |n+1=>by
  have:=TQ l n;unfold gE;split
  .omega
  .simp;omega
def TR{l:List (List Int)}:∀{n:Nat}{w:List Int},n<=l.length->(w∈gE l n↔∃j:Int,0<=j/\j<n/\ix l j=w)
 |0,w,_=>by simp[gE];intro j;omega
 |n+1,w,h=>by
  have g:=λw=>TR (l:=l) (n:=n) (w:=w) aa
  unfold gE;split
  .rename_i i
   rw[g];constructor
   .rintro⟨j,a,b,e⟩;exact⟨j,a,aa,e⟩
   .rintro⟨j,a,b,e⟩
    by_cases d:j=(n:Int)
    .subst d;exact⟨(n:Int)-1,aa,aa,by rw[<-i.2];exact e⟩
    .exact⟨j,a,aa,e⟩
  .rw[cY,g]
   constructor
   .rintro(⟨j,a,b,e⟩|e)
    .exact⟨j,a,aa,e⟩
    .simp at e;exact⟨n,aa,aa,e.symm⟩
   .rintro⟨j,a,b,e⟩
    by_cases d:j=(n:Int)
    .subst d;right;simp[e]
    .left;exact⟨j,a,aa,e⟩
variable{l:List (List Int)}{w:List Int}
def amB:w∈fY l↔w∈l:=by
 unfold fY;rw[TR (bd _)];constructor
 .rintro⟨j,a,b,rfl⟩;exact aJ a b
 .intro h
  obtain⟨i,d,rfl⟩:=eL.1 h;exact⟨i,aa,aa,aB d⟩
abbrev Dp (K:ES) (l:List (List Int)):Prop:=l.Pairwise λa b=>K a b<0
def nA (K:ES) (l:List (List Int)):List (List Int):=fY (fP K l)
def TS:w∈nA K l↔w∈l:=by
 unfold nA;rw[amB,(Dn l).mem_iff]
def TT (l:List (List Int)):(fY l).length<=l.length:=TQ l _
def Dq (l:List (List Int)):(fP K l).length=l.length:=(Dn l).length_eq
end
abbrev pX (l:List (List Int)):Prop:=Dp aI l
abbrev gJ (l:List (List Int)):List (List Int):=nA aI l
def amC{l:List (List Int)}{w:List Int}:w∈gJ l↔w∈l:=TS
def amD{ce:CE}{g:Nat}{a d:List AV}(h:agree ce g a aI d=true) (k:agree ce g a cy d=true):ee aI d=ee cy d:=by
 have p:kr d:=λx j=>by
  obtain⟨u,v,l,_⟩:=rD h j j;exact⟨u,l⟩
 refine NP NM p (uv d) ?_;have s:=FQ cC p;refine s.imp_of_mem fun {x y} j w o=>?_;have b :=(uv d).mem_iff.1 j;have i :=(uv d).mem_iff.1 w;obtain⟨u,v,l,q,z⟩:=rD h b i;obtain⟨A, B, m,n,r⟩:=rD k b i;rw[l]at m;rw[q]at n;injection m with m;injection n with n
 subst m;subst n;rw[z]at r;have e:aI u v=cy u v:=by simpa using r
 rw[rC l q]at o ⊢;omega
structure TU (f:Nat) (K:ES):Prop where
 ok:BE K
 run:∀a b:List Int,(a.length:Int)<=1000000->(b.length:Int)<=1000000->PC f [iL a,iL b]=some (.int (K a b))
 one:K=aI\/K=cy
def amE:TU pB aI:=⟨cC,λa b d e=>Dl a b aa aa,.inl rfl⟩
section
variable{K:ES}
abbrev LB (ws:List (List Int)) (k:Nat):al:=⟨none,ws.map iL++List.replicate k .ag,.live⟩
abbrev Lb (ws:List (List Int)):al:=⟨none,ws.map iL,.live⟩
abbrev pH (ws:List (List Int)):Prop:=∀w∈ws,(w.length:Int)<=1000000
def TV (w:List Int) (h:(w.length:Int)<=1000000):PC uS [iL w]=some (iL w):=by
 first
 |(
  have e:vD (cN G Q 0) [iL w]=some (iL w):=by
   simp only[vD,iL];rw[ae];simp[isScalar]
   try omega
  have:=Jz e;unfold PC rW;rw[this]
  rfl)
 |(
  cases w with
  |nil=>
   have e:gu (cN G Q 0) [iL []] []=some (.emp,[]):=rfl;have:=Jz e;unfold PC rW;rw[this]
   rfl
  |cons x l=>
   have e:gu (cN G Q 0) [iL (x::l)] []=some (.sl 0 (x::l).length 0 (x::l).length,[⟨none,(x::l).map .int,.live⟩]):=by
    simp only[gu,iL,cS];rw[ae]
    .simp
    .simp[isScalar,dK]
     simp at h;omega
   have:=Jz e;unfold PC rW;rw[this];exact nU rfl rfl rfl)
variable{σ:List al}{b u:Nat}
def amF{vars env:List AV}{x:Rf}{z:List AV}{k:Option Nat}{a:List al}{K:List AV->List al->List al->Prop}{off len:Nat}{B:al}(d:rv vars env x = .sl b u off len) (e:upto σ b u=some B) (g:0<len/\off+len*aM k<=B.cells.length/\aM B.k=aM k/\z.length=aM k/\B.st.isLive=true):ck L vars (.vA x z k) false env a σ K=K (.aO::env) [] (ar σ b ⟨B.k,putAt B.cells off (eK len z),B.st⟩):=by
 show aS (gf L σ (rv vars env) (.vA x z k)) (λp=>K (p.1::env) [] p.2)=_;simp only[gf,d,e];rw[ae g];rfl
variable{vs:List (List Int)}
def TW(h:gE vs vs.length=vs.take vs.length):fY vs=vs:=by unfold fY;rw[h,List.take_length]
theorem TX(h:0<vs.length):gE vs 1=vs.take 1:=by
 match vs,h with
 |x::r,_=>rfl
variable{k:Int}
def TY(k0:1<=k) (h:ix vs k=ix vs (k-1)):gE vs (k+1).toNat=gE vs k.toNat:=by
 rw[show(k+1).toNat=k.toNat+1 by omega]
 conv=>lhs;unfold gE
 rw[ae ⟨aa,by rw[show((k.toNat:Nat):Int)=k by omega];exact h⟩]
def TZ(k0:1<=k) (h:¬ix vs k=ix vs (k-1)):gE vs (k+1).toNat=gE vs k.toNat ++ [ix vs k]:=by
 rw[show(k+1).toNat=k.toNat+1 by omega]
 conv=>lhs;unfold gE
 rw[ad (λ⟨_,e⟩=>h (by rwa [show((k.toNat:Nat):Int)=k by omega]at e)),show((k.toNat:Nat):Int)=k by omega]
def amG(a:0<=k) (b:k<vs.length):vs.take (k+1).toNat=vs.take k.toNat ++ [ix vs k]:=by
 rw[show(k+1).toNat=k.toNat+1 by omega,nh,mw a b];rfl
def amH{ws:List (List Int)}(h:pH ws):pH (fP K ws):=λw a=>h w ((Dn ws).mem_iff.1 a)
def amI (ws:List (List Int)) (b:ws ≠ []) (m:(ws.length:Int)<=1000000):L zw [b8 ws] []=some (.sl 0 ws.length 0 ws.length,[Lb ws]):=by
 refine Rs (N:=0) ?_;obtain⟨x,l,rfl⟩:∃x l,ws=x::l:=by
  cases ws with
  |nil=>exact absurd rfl b
  |cons x l=>exact⟨x,l,rfl⟩
 have d:∀k:List (List Int),(k.map iL).all qW=true:=λk=>by simp[qW]
 have e:∀k:List (List Int),aC (k.map iL)=true:=λk=>by
  induction k with
  |nil=>rfl
  |cons a r g=>simp only[cS,aC,aR,Bool.true_and];exact g
 have h:((x::l).map iL).length<=dK:=by rw[dA];show(x::l).length<=1073741824;omega
 have i:((x::l).map iL).map gh=(x::l).map iL:=by simp[gh]
 have j:(((x::l).map iL).all qW&&aC ((x::l).map iL)&&decide (((x::l).map iL).length<=dK))=true:=by
  rw[d,e,mf h];rfl
 show gP (cN G Q 0) [.aF false (iL x::l.map iL)] []=_;unfold gP;refine(ae j).trans ?_;rw[show(iL x::l.map iL)=(x::l).map iL from rfl,i,dA]
 rfl
def T1{a:Type}{f:a->AV}{rest:List AV}:∀{xs:List a},chunk none xs.length (xs.map f++rest)=xs.map f
 | []=>rfl
 |x::xs=>by
  have e:=T1 (f:=f) (rest:=rest) (xs:=xs);simp only[cO,cS,jD,chunk,e]
variable{r:Nat}{xs:List (List Int)}
def T2{fr:Bool}{st:fb}(h:aq σ b=some ⟨none,xs.map iL++List.replicate r .ag,st⟩) (d:st.fG=true) (a:u=xs.length+r):view σ false vd (.sl b u 0 xs.length)=some (b8 xs):=by
 subst a;have a:upto σ b (xs.length+r)=some ⟨none,xs.map iL++List.replicate r .ag,st⟩:=by
  unfold upto;rw[h];cases st<;>simp at d ⊢
 show view σ false (11+1) _=_;unfold view;simp only[a,aM,ow,gX,Nat.mul_one];rw[ae ab,T1,C8 (f:=iL) (g:=iL) (v:=view σ false 11) λ_ _=>rfl]
variable{i:Int}
def amJ(a:0<=i) (b:i<xs.length):pa (xs.map iL++List.replicate r AV.ag) i.toNat=some (iL (ix xs i)):=by
 rw[zg,eJ ax,iv,mw a b];rfl
def amK(a:0<=i) (b:i<xs.length):(xs.map iL++List.replicate r AV.ag).set i.toNat (iL (ix xs i))=xs.map iL++List.replicate r AV.ag:=by
 rw[List.set_append,ae ax,<-List.map_set]
 congr 2
 have:ix xs i=xs[i.toNat]:=by
  have:=aB (l:=xs) (n:=i.toNat) aa
  rwa [show((i.toNat:Nat):Int)=i by omega]at this
 rw[this];exact List.set_getElem_self _
end
section
variable{f:Nat}{K:ES}(hF:TU f K)
include hF
theorem amL (ws:List (List Int)) (l:ws ≠ []) (w:(ws.length:Int)<=1000000) (j:pH ws):L zx [.sl 0 ws.length 0 ws.length,.func f []] [Lb ws]=some (.bM [],[Lb (fP K ws)]):=by
 have m:∀x∈ws.map iL,∀y∈ws.map iL,∃u v,cd x=some u/\cd y=some v/\jq (lim G Q) f (x::y :: [])=some (.int (K u v)):=by
  intro x n y o;obtain⟨u,i,rfl⟩:=cx.1 n;obtain⟨v,p,rfl⟩:=cx.1 o;refine⟨u,v,wE u,wE v,?_⟩;have:=hF.run u v (j u i) (j v p);unfold jq;rw[ae ab]
  exact this
 obtain⟨N,b⟩:=ZT oD m;refine Rt (N:=N) ?_;have q:0<ws.length:=mR.2 l;have i:upto [Lb ws] 0 ws.length=some (Lb ws):=by simp[upto,aq]
 have d:(ws.map iL).length<=dK:=by rw[dA];show ws.length<=1073741824;omega
 simp only[mb,i];have r:(((ws.map iL).drop 0).take ws.length)=ws.map iL:=by rw[ow,eZ ab]
 rw[r];have a:((fb.live).isLive&&hZ none&&decide (0<ws.length)&&decide (0+ws.length<=(ws.map iL).length)&&decide ((ws.map iL).length<=dK))=true:=by
  simp only[dA]at d ⊢;simp[q,fb.isLive,hZ]
  try omega
 rw[ae a];have g:(if agree (cN G Q N) f [] aI (ws.map iL)=true then some (AV.bM [],ar [Lb ws] 0 ⟨none,putAt (ws.map iL) 0 (ee aI (ws.map iL)),.live⟩)else if agree (cN G Q N) f [] cy (ws.map iL)=true then some (AV.bM [],ar [Lb ws] 0 ⟨none,putAt (ws.map iL) 0 (ee cy (ws.map iL)),.live⟩)else none)=some (AV.bM [],ar [Lb ws] 0 ⟨none,putAt (ws.map iL) 0 (ee K (ws.map iL)),.live⟩):=by
  rcases hF.one with e|e
  .rw[e]at b ⊢;rw[ae b]
  .rw[e]at b ⊢
   by_cases h:agree (cN G Q N) f [] aI (ws.map iL)=true
   .rw[ae h,amD h b]
   .rw[ad h,ae b]
 rw[g,TN];have s:putAt (ws.map iL) 0 ((fP K ws).map iL)=(fP K ws).map iL:=by
  unfold putAt;rw[List.take_zero,mQ,jY (by simp[Dq])];simp
 rw[s]
theorem T4 (a b:List Int) (d:(a.length:Int)<=1000000) (g:(b.length:Int)<=1000000):PC zy [iL a,iL b,.a8 (.func f [])]=some (.bool (decide (a=b))):=by
 refine bZ (akl rfl ?_);have e:=hF.run a b d g;simp[e];exact⟨hF.ok.eq a b,λh=>by subst h;exact hF.ok.refl a⟩
theorem amM (vs:List (List Int)) (G:vs ≠ []) (O:(vs.length:Int)<=1000000) (s:pH vs) :
  LX L Cp [.sl 0 vs.length 0 vs.length,.func zy [.a8 (.func f [])]] [Lb vs] (λv τ=>v = .sl 0 vs.length 0 (fY vs).length/\τ=[LB (fY vs) (vs.length-(fY vs).length)]):=by
 have E:0<vs.length:=mR.2 G;refine Ru rfl ?_
 by_cases P:vs.length<2
 .simp[show(vs.length:Int)<2 by omega]
  have u:vs.length=1:=aa
  rw[TW (by rw[u];exact TX E)];simp
 .simp[show ¬(vs.length:Int)<2 by omega]
  refine aK (λk:Int=>[(2,.int k)]) (λ_=>[Lb vs]) (λk=>1<=k/\k<=vs.length/\gE vs k.toNat=vs.take k.toNat) (λk=>(vs.length-k).toNat) 1 rfl ⟨aa,aa,?_⟩ λk ⟨H,Q,l⟩=>?_
  .exact TX E
  by_cases w:k<vs.length
  .have e:=T4 hF (ix vs k) (ix vs (k-1)) (s _ (aJ aa w)) (s _ (aJ aa aa))
   simp[-aj,w,show 0<=k by omega,show 0<=k-1 by omega,show k-1<(vs.length:Int)by omega,e]
   refine⟨aa,aa,aa,λx=>⟨aa,?_⟩,λx=>⟨aa,aD (k+1) rfl rfl ⟨aa,aa,by rw[TZ aa x,l,amG aa w]⟩ aa⟩⟩
   obtain⟨k,rfl⟩:∃I : Nat,k=I :=⟨k.toNat,aa⟩
   have J:k<vs.length:=aa
   rw[lA]at l ⊢;have g:=TY (vs:=vs) H x;rw[show((k:Int)+1).toNat=k+1 by omega,lA,l]at g
   refine aK (λp:Nat×Nat×List (List Int)=>[(2,.int p.1),(3,.int ((p.2.1:Int)+1))]) (λp=>[Lb p.2.2]) (λp=>k+p.2.1+1<=vs.length/\p.2.2.length=vs.length/\p.1=(gE vs (k+p.2.1+1)).length/\p.1<=k+p.2.1/\p.2.2.take p.1=gE vs (k+p.2.1+1)/\∀j:Nat,k+p.2.1<=j->j<vs.length->ix p.2.2 (j:Int)=ix vs (j:Int))
    (λp=>vs.length-p.2.1) (k,0,vs) aX ⟨au,rfl,by dsimp only;rw[Nat.add_zero,g];simp;omega,au,by dsimp only;rw[Nat.add_zero,g],λ_ _ _=>rfl⟩ ?_
   rintro⟨q,j,cs⟩ ⟨K,d,m,M,n,o⟩;dsimp only at K d m M n o ⊢
   by_cases N:k+j+1<vs.length
   .have u:=o (k+j+1) aa N
    have F:=o (k+j) aa aa
    have e:=T4 hF (ix vs ((k+j+1:Nat):Int)) (ix vs ((k+j:Nat):Int)) (s _ (aJ aa aa)) (s _ (aJ aa aa))
    rw[<-u,<-F,show((k+j+1:Nat):Int)=(k:Int)+((j:Int)+1)by omega,show((k+j:Nat):Int)=(k:Int)+j by omega]at e
    simp[-aj,d,show(j:Int)+1<((vs.length-k:Nat):Int)by omega,e]
    have y:ix vs ((k+j+1:Nat):Int)=ix vs ((k+j:Nat):Int)->gE vs (k+(j+1)+1)=gE vs (k+j+1):=λh=>by
     have:=TY (vs:=vs) (k:=((k+j+1:Nat):Int)) aa rI
     rw[show(((k+j+1:Nat):Int)+1).toNat=k+(j+1)+1 by omega,show(((k+j+1:Nat):Int)).toNat=k+j+1 by omega]at this
     exact this
    have z:¬ix vs ((k+j+1:Nat):Int)=ix vs ((k+j:Nat):Int)->gE vs (k+(j+1)+1)=gE vs (k+j+1) ++ [ix vs ((k+j+1:Nat):Int)]:=λh=>by
     have:=TZ (vs:=vs) (k:=((k+j+1:Nat):Int)) aa rI
     rw[show(((k+j+1:Nat):Int)+1).toNat=k+(j+1)+1 by omega,show(((k+j+1:Nat):Int)).toNat=k+j+1 by omega]at this
     exact this
    rw[<-u,<-F,show((k+j+1:Nat):Int)=(k:Int)+((j:Int)+1)by omega,show((k+j:Nat):Int)=(k:Int)+j by omega]at y z
    refine⟨aa,aa,aa,aa,aa,λh=>⟨aa,aD (q,j+1,cs) ab rfl ⟨au,d,by dsimp only;rw[y h];exact m,au,by dsimp only;rw[y h];exact n,λi a b=>o i (by dsimp only at a;omega) b⟩ au⟩,λh=>⟨aa,aa,aa,aa,aa,aD (q+1,j+1,cs.set q (ix cs ((k:Int)+((j:Int)+1)))) ab na ⟨au,fM,by dsimp only;rw[z h];simp;exact m,au,?_,λi a b=>?_⟩ au⟩⟩
    .dsimp only
     rw[z h,<-n,nh,List.take_set_of_le (bd _),List.getElem?_set_self aa]
     rfl
    .dsimp only at a ⊢
     rw[zT aa aa,ad aa]
     exact o i aa b
   .simp[-aj,show ¬(j:Int)+1<((vs.length-k:Nat):Int)by omega]
    have A:q<=vs.length:=aa
    have C:k+j+1=vs.length:=aa
    rw[C]at m n;refine⟨d,A,?_⟩;rw[amF (B:=Lb cs) rfl (by simp[upto,aq,d]) ⟨aa,by simp[d];omega,rfl,rfl,rfl⟩]
    have r:putAt (cs.map iL) q (eK (vs.length-q) [.ag])=(fY vs).map iL++List.replicate (vs.length-q) .ag:=by
     unfold putAt;rw[<-List.map_take,n,jY (by simp[eK,d];omega)]
     simp[eK,fY]
    have D:(fY vs).length=q:=by unfold fY;exact m.symm
    simp[r,D];omega
  .simp[w]
   rw[show k.toNat=vs.length by omega]at l
   rw[TW l];simp
theorem amN:L Cp [.aF false [],.func zy [.a8 (.func f [])]] []=some (.aF false [],[]):=by
 refine jP (Ru rfl ?_);simp
theorem amO (ws:List (List Int)) (y:(ws.length:Int)<=1000000) (o:pH ws):PC HY [b8 ws,.func f []]=some (b8 (nA K ws)):=by
 refine bZ (akj rfl ?_)
 by_cases l:ws=[]
 .subst l
  have p:L zw [.aF false []] []=some (.aF false [],[]):=Rs (N:=0) rfl;have q:L zx [.aF false [],.func f []] []=some (.bM [],[]):=Rt (N:=0) rfl;have m:=amN hF;simp[p,q,m,js];refine aK (λ_:Unit=>[]) (λ_=>[]) (λ_=>True) (λ_=>0) () rfl trivial λ_ _=>?_;simp[nA,fP,fY,gE]
 .have A:fP K ws ≠ []:=λe=>l (dY (by rw[<-Dq (K:=K),e];rfl))
  have hlen:=Dq (K:=K) ws;have p:=amI ws l y;have q:=amL hF ws l y o;obtain⟨_,_,m,rfl,rfl⟩:=dd (amM hF (fP K ws) A aa (amH o))
  rw[hlen]at m;have s:kL 0 (ws.map iL)=ws.map iL:=by
   have:∀k:List (List Int),kL 0 (k.map iL)=k.map iL:=λk=>by
    induction k with
    |nil=>rfl
    |cons a r B=>simp only[cS,kL,js,B]
   exact this ws
  simp[p,q,m,js,gH,s];have z:=TT (fP K ws);rw[hlen]at z;have d:pH (fY (fP K ws)):=λw h=>o w (TS.1 h);show W L Re.loop _ _;have C:nA K ws=fY (fP K ws):=rfl;rw[C];generalize fY (fP K ws)=cs at *;have D:=T2 (σ:=[LB cs (ws.length-cs.length)]) (fr:=false) (b:=0) (u:=ws.length) (xs:=cs) (r:=ws.length-cs.length) (st:=.live) rfl ab aa
  refine aK (λi:Int=>[(4,.int i)]) (λ_=>[LB cs (ws.length-cs.length)]) (λi=>0<=i/\i<=cs.length) (λi=>(cs.length-i).toNat) 0 rfl aa λi ⟨n,i1⟩=>?_
  by_cases g:i<cs.length
  .have E:=TV (ix cs i) (d _ (aJ n g))
   have x:=amJ (xs:=cs) (r:=ws.length-cs.length) n g;have j:=amK (xs:=cs) (r:=ws.length-cs.length) n g;simp[-aj,-List.map_append,g,n,z,x,E,-QL,↓al5,j];exact⟨aa,aa,aD (i+1) ab rfl aa aa⟩
  .simp[g,D]
end
def T5 (ws:List (List Int)) (a:(ws.length:Int)<=1000000) (b:pH ws):PC Ci [b8 ws]=some (b8 (gJ ws)):=by
 refine bZ (akg rfl ?_);simp[amO amE ws a b]
structure AY (n:ao) (plc:List Int):Prop where
 len:plc.length=n.accept.length
 x4 : ∀i:Nat,i<n.bj.length->ix plc (ix n.bj (i:Int))=i
variable{n:ao}
def tG(a:n.Ok):n.oF n.bj:=λs g=>by
 rcases r7.1 g with rfl|⟨r,h,i⟩
 .exact a.start
 .obtain⟨j,b,e⟩:=eL.1 h
  obtain⟨c,l,m⟩:=eL.1 i;have p:=a.lens;have o:=(a.row j aa aa).1
  have d:=a.call j c aa aa aa (by rw[aB b,e]at o;omega)
  rw[aB b,e,aB l,m]at d;exact d
def Ks:n.bj.Nodup:=List.Pairwise.imp (λh=>aa) ami
def Kt(a:n.Ok):1<=n.bj.length/\n.bj.length<=128:=by
 have b:=tG a;have e:=tB n.accept.length Ks b;have d:n.start∈n.bj:=r7.2 (.inl rfl);have g:=List.length_pos_of_mem d;have h:=a.eU;omega
def ET (n:ao) (plc:List Int):List al:=[Zb plc,⟨some 0,[],.map [(.str (fg n.bj),.int 0)]⟩,⟨some 16,[.int n.calls,.int n.ak,.int n.ah,.int n.stack,.int n.start,bL n.accept,b8 n.call,b8 n.push,b8 n.inner,fv n.pop,iL n.bj,.sl 0 plc.length 0 plc.length,.sl 3 1 0 1,.cP 1,.ag,.ag],.live⟩,⟨none,[iL n.bj],.live⟩]
def amP (n:ao) (a:n.Ok) (plc:List Int):L xa [.ptr 2 16 0,iL n.bj] [Zb plc,⟨some 0,[],.map []⟩,⟨some 16,[.int n.calls,.int n.ak,.int n.ah,.int n.stack,.int n.start,bL n.accept,b8 n.call,b8 n.push,b8 n.inner,fv n.pop,iL n.bj,.sl 0 plc.length 0 plc.length,.ag,.cP 1,.ag,.ag],.live⟩]=some (.int 0,ET n plc):=by
 refine jP (Rn rfl ?_);have e:=Kt a;have d:=Kh n.bj (zZ a (tG a)) aa
 have b:∀x,ba 1 (.str x)=true:=λ_=>rfl;simp[-aj,d,cL,b]
 rfl
def amQ (n:ao) (b:n.Ok):LX L Jo [n.av] [] (λr τ=>∃plc,AY n plc/\r = .ptr 2 16 0/\τ=ET n plc):=by
 refine aiV rfl ?_;have x:=amj n b;have E:=Kt b;have s:=tG b;have y:=b.eU;have d:=TV n.bj aa
 have a:=amP n b;simp[-aj,-List.map_replicate,x];refine⟨aa,rfl,?_⟩
 refine aK (λq:Nat×List Int=>[(3,.int q.1)]) (λq=>[Zb q.2,⟨some 0,[],.map []⟩,⟨some 16,[.int n.calls,.int n.ak,.int n.ah,.int n.stack,.int n.start,bL n.accept,b8 n.call,b8 n.push,b8 n.inner,fv n.pop,iL n.bj,.sl 0 n.accept.length 0 n.accept.length,.ag,.cP 1,.ag,.ag],.live⟩])
  (λq=>q.1<=n.bj.length/\q.2.length=n.accept.length/\∀j:Nat,j<q.1->ix q.2 (ix n.bj (j:Int))=j) (λq=>n.bj.length-q.1) (0,List.replicate n.accept.length 0) (by simp[du,AV.cells]) ⟨ab,ab,λj h=>by dsimp only at h;omega⟩ ?_
 rintro⟨k,pl⟩ ⟨z,g,i⟩;dsimp only at z g i ⊢
 by_cases A:k<n.bj.length
 .have u:=s _ (aJ (l:=n.bj) (n:=(k:Int)) aa aa)
  have m:=az (show ix n.bj (k:Int)<(pl.length:Int)by omega)
  have o:=az (show ix n.bj (k:Int)<(n.accept.length:Int)by omega)
  simp[-aj,A,u.1,m,o,g];refine⟨aa,aD (k+1,pl.set (ix n.bj (k:Int)).toNat k) ab na ⟨au,iH,λj B=>?_⟩ au⟩
  dsimp only at B ⊢;have p:=s _ (aJ (l:=n.bj) (n:=(j:Int)) aa aa)
  rw[zT p.1 aa]
  by_cases e:j=k
  .subst e;rw[ae aa]
  .rw[ad,i j aa]
   intro h;rw[aB aa,aB aa]at h
   have C : n.bj[j]=n.bj[k]:=by
    have:=u.1;rw[aB aa]at this
    omega
   exact e ((rN Ks).1 C)
 .have D:k=n.bj.length:=by omega
  subst D;have w : PC uS [.aF false (n.bj.map .int)]=some (iL n.bj):=d;have a:=a pl;rw[g]at a;simp[-aj,d,a];exact⟨pl,⟨g,i⟩,rfl⟩
def oO (n:ao) (plc:List Int):Vd:=⟨n,plc,[n.bj],[],[]⟩
def amR(a:n.Ok){plc:List Int}(b:AY n plc):tF (oO n plc):=by
 have l:=Kt a;refine⟨a,λk m=>?_,l.2,λs c d g o p=>?_⟩
 .have:k=n.bj:=by simpa[oO]using m
  subst this;exact⟨tG a,rfl⟩
 .have h:ix (ix n.call s) c∈n.bj:=by
   have q:=(a.row s d g).1;have u:=a.lens;exact r7.2 (.inr ⟨_,aJ d (show s<(n.call.length:Int)by have:s<(n.accept.length:Int):=g;omega),aJ o (by have:c<n.calls:=p;omega)⟩)
  have w:=tG a _ h;obtain⟨i,j,e⟩:=eL.1 h;have:=b.x4 i j;rw[aB j,e]at this;have r:=b.len;show ix (ix n.call s) c<(plc.length:Int)/\0<=ix plc (ix (ix n.call s) c)/\ix plc (ix (ix n.call s) c)<(n.bj.length:Int);rw[this];omega
def p0:Tg->Nat
 |.pl=>1
 |.mp=>2
 |.v=>3
 |.ls=>4
 |.aQ=>0
 |.bl=>0
 |.rw _=>0
 |.cl _ _=>0
 |.old i=>i
def vs0 (n:ao) (plc:List Int) (A:al):VS (oO n plc) (λi=>if i=0 then some A else none) p0 (A::(ET n plc).map (gH 1)):=by
 have g:∀l:List Int,kL 1 (l.map .int)=l.map .int:=Dd;refine⟨λt B a=>?_,λt u X Y b d e=>?_,λi=>rfl⟩
 .cases t with
  |v=>
   have:B=(oO n plc).box p0:=by simpa[Vd.cont]using a.symm
   subst this;simp[ET,p0,aq,gH,kL,js,Vd.box,oO,cu]
  |pl=>
   have:B=Zb plc:=by simpa[Vd.cont,oO]using a.symm
   subst this;simp[ET,p0,aq,gH,g]
  |mp=>
   have:B=⟨some 0,[],.map (rb 0 [n.bj])⟩:=by simpa[Vd.cont,oO]using a.symm
   subst this;simp[ET,p0,aq,gH,rb,pV,Nw,kL,js]
  |ls=>
   have:B=⟨none,[iL n.bj],.live⟩:=by simpa[Vd.cont,oO]using a.symm
   subst this;simp[ET,p0,aq,gH,kL,js]
  |aQ=>simp[Vd.cont,oO]at a
  |bl=>simp[Vd.cont,oO]at a
  |rw x=>simp[Vd.cont,oO]at a
  |cl x c=>simp[Vd.cont,oO]at a
  |old i=>
   have a:(if i=0 then some A else none)=some B:=a
   split at a
   .rename_i h;subst h;exact a
   .simp at a
 .have nz:∀i,(oO n plc).cont (λi=>if i=0 then some A else none) p0 (.old i)=none\/i=0:=λi=>by
   by_cases h:i=0
   .exact .inr h
   .left;simp[Vd.cont,h]
  cases t<;>cases u<;>first
   |rfl
   |(simp[Vd.cont,oO]at b;done)
   |(simp[Vd.cont,oO]at d;done)
   |(simp[p0]at e;done)
   |(simp[p0]at e;subst e;rfl)
   |(rename_i i;rcases nz i with h|h
     .first|(rw[h]at b;simp at b;done)|(rw[h]at d;simp at d;done)
     .subst h;simp[p0]at e)
def AZ (k:Int):List Int:=[k%256,(k/256)%256]
def dq (l:List Int):List Int:=l.flatMap AZ
abbrev bK (a:List Int):List AV:=a.map (AV.ik 4)
variable{l:List Int}
def amS{a:Int}:dq (l ++ [a])=dq l ++ [a%256,(a/256)%256]:=by simp[dq,AZ]
variable{m:List Int}
def T6:dq (l++m)=dq l++dq m:=by simp[dq]
def Dr:∀l:List Int,(dq l).length=2*l.length
 | []=>rfl
 |a::l=>by
  have:=Dr l;simp only[dq,AZ,iI,aU,cO,fe]at this ⊢;omega
abbrev Ds (a:List Int):List al:=[⟨none,bK a,.live⟩,⟨none,[.sl 0 a.length 0 a.length],.live⟩]
def Aa (cls l a:List Int) (i:∀y∈l,0<=y/\y<(cls.length:Int)) (o:a ≠ []) (hlen:a.length+2*l.length<=100000000) :
  L Cg [iL l,.ptr 1 1 0,.a8 (iL cls)] (Ds a)=some (.bM [],Ds (a++dq (l.map (ix cls)))):=by
 refine jP (ake rfl ?_);simp[-aj,-List.map_append];refine aK (λk:Nat=>[(3,.int k)]) (λk=>Ds (a++dq ((l.take k).map (ix cls)))) (λk=>k<=l.length) (λk=>l.length-k) 0 (by simp[du,dq]) aa ?_
 intro k p
 by_cases g:k<l.length
 .have h:=i _ (aJ (l:=l) (n:=(k:Int)) aa aa)
  have tk:=gx g;have d:=Dr ((l.take k).map (ix cls));have b:min k l.length=k:=ql aa
  simp only[dA,og,b]at d;have j:dq ((l.take (k+1)).map (ix cls))=dq ((l.take k).map (ix cls)) ++ [ix cls (ix l (k:Int))%256,(ix cls (ix l (k:Int))/256)%256]:=by rw[tk,jE,cS,List.map_nil,amS]
  have e:(ix cls (ix l (k:Int))).fdiv 256=ix cls (ix l (k:Int))/256:=Int.fdiv_eq_ediv_of_nonneg _ aa
  generalize dq ((l.take k).map (ix cls))=B at *;simp[-aj,-List.map_append,g,h.1,h.2];refine⟨aa,aa,aD (k+1) ab ?_ aa aa⟩
  rw[<-List.map_take,j,e];simp[Nat.add_assoc]
 .have m:k=l.length:=by omega
  subst m;simp[-aj,-List.map_append]
structure j9 (D:Vd):Prop where
 f:Full D
 k:0<D.K.length
 c:0<=D.n.calls/\D.n.calls<=64
 n:0<=D.n.ak/\D.n.ak<=64
 r:0<=D.n.ah/\D.n.ah<=64
 rl:∀x:Nat,x<D.K.length->(D.row x).length=D.n.calls.toNat
 inl:∀x:Nat,x<D.K.length->(ix D.IN (x:Int)).length=D.n.ak.toNat/\∀y∈ix D.IN (x:Int),0<=y/\y<(D.K.length:Int)
 r8:∀x c y:Nat,x<D.K.length->c<D.n.calls.toNat->y<D.K.length->(ix (D.bV x c) (y:Int)).length=D.n.ah.toNat/\∀z∈ix (D.bV x c) (y:Int),0<=z/\z<(D.K.length:Int)
def Vd.xn (D:Vd) (cls:List Int) (x c y:Nat):List Int:=(ix (D.bV x c) (y:Int)).map (ix cls)++(ix (D.bV y c) (x:Int)).map (ix cls)
def Vd.nD (D:Vd) (cls:List Int) (x c k:Nat):List Int:=(List.range k).flatMap λy=>D.xn cls x c y
def Vd.ka (D:Vd) (cls:List Int) (x j:Nat):List Int:=ix cls (x:Int)::(ix D.IN (x:Int)).map (ix cls)++(List.range j).flatMap λc=>D.nD cls x c D.K.length
variable{D:Vd}{cls:List Int}{x k:Nat}
def T7{c:Nat}:D.nD cls x c (k+1)=D.nD cls x c k++((ix (D.bV x c) (k:Int)).map (ix cls)++(ix (D.bV k c) (x:Int)).map (ix cls)):=by
 simp[Vd.nD,Vd.xn,jh]
def T8{j:Nat}:D.ka cls x (j+1)=D.ka cls x j++D.nD cls x j D.K.length:=by
 simp[Vd.ka,jh]
def Ku{D:Vd}(h:j9 D){cls:List Int}{x c:Nat}(a:x<D.K.length) (b:c<D.n.calls.toNat):∀{k:Nat},k<=D.K.length->(D.nD cls x c k).length<=k*128
 |0,_=>by simp[Vd.nD]
 |k+1,d=>by
  have:=Ku h a b (cls:=cls) (k:=k) aa
  rw[T7];have e:=(h.r8 x c k a b aa).1
  have g:=(h.r8 k c x aa b a).1
  have i:=h.r;simp only[aU,dA];omega
def T9{D:Vd}(h:j9 D){cls:List Int}{x:Nat}(a:x<D.K.length):∀{j:Nat},j<=D.n.calls.toNat->(D.ka cls x j).length<=65+j*65536
 |0,_=>by have:=(h.inl x a).1;have:=h.n;simp[Vd.ka];omega
 |j+1,b=>by
  have:=T9 h a (cls:=cls) (j:=j) aa
  rw[T8,aU];have d:=Ku h (cls:=cls) a (c:=j) aa (bd D.K.length)
  have:=h.f.k;omega
def amT (D:Vd) (h:j9 D) (cls:List Int) (d:cls.length=D.K.length) (x:Nat) (l:x<D.K.length):PC CJ [D.vcs.av,iL cls,.int x]=some (.aF false (bK (dq (D.ka cls x D.n.calls.toNat)))):=by
 refine bZ (aj1 rfl ?_);have q:=h.f;have Y:=q.k;have Z:=q.i;have hfb:=q.b;have A:=h.inl x l;have sO:=h.c;have EA:=h.n;have XL:=h.r;have C:=az (show(x:Int)<(cls.length:Int)by omega)
 have E:=az (show(x:Int)<(D.IN.length:Int)by omega)
 have s:=az (show(x:Int)<(D.BL.length:Int)by omega)
 have F:=Aa cls (ix D.IN (x:Int)) [ix cls (x:Int)%256,ix cls (x:Int)/256%256] (λy m=>by rw[d];exact A.2 y m) ab ax
 have G:(ix cls (x:Int)).fdiv 256=ix cls (x:Int)/256:=Int.fdiv_eq_ediv_of_nonneg _ aa
 have u : L Cg [.aF false ((ix D.IN (x:Int)).map .int),.ptr 1 (aM none) 0,.a8 (.aF false (cls.map .int))] [⟨none,te [.ik 4 (ix cls (x:Int)%256),.ik 4 (ix cls (x:Int)/256%256)],.live⟩,⟨none,[.sl 0 2 0 2],.live⟩]=some (.bM [],Ds (dq (D.ka cls x 0))):=by
  have e:dq (D.ka cls x 0)=[ix cls (x:Int)%256,ix cls (x:Int)/256%256]++dq ((ix D.IN (x:Int)).map (ix cls)):=by simp[Vd.ka,dq,AZ]
  rw[e];exact F
 simp[-aj,-List.map_append,C,E,s,G,u];refine aK (λc:Nat=>[(6,.int c)]) (λc=>Ds (dq (D.ka cls x c))) (λc=>c<=D.n.calls.toNat) (λc=>D.n.calls.toNat-c) 0 aX aa ?_
 intro c c0;have lJ:=T9 h (cls:=cls) l c0
 by_cases w:c<D.n.calls.toNat
 .have o:=az (show(c:Int)<D.n.calls by omega)
  simp[-aj,-List.map_append,o];have ez:Ds (dq (D.ka cls x c))=Ds (dq (D.ka cls x c++D.nD cls x c 0)):=by simp[Vd.nD]
  refine aK (λy:Nat=>[(8,.int y)]) (λy=>Ds (dq (D.ka cls x c++D.nD cls x c y))) (λy=>y<=D.K.length) (λy=>D.K.length-y) 0 (by rw[<-ez];simp[du]) aa ?_
  intro y y0;have X:=Ku h (cls:=cls) l w y0
  by_cases m:y<D.K.length
  .have e0:=T7 (D:=D) (cls:=cls) (x:=x) (c:=c) (k:=y)
   have H:=h.r8 x c y l w m;have I:=h.r8 y c x m w l;have J:dq (D.ka cls x c++D.nD cls x c y) ≠ []:=by simp[Vd.ka,dq,AZ]
   have N:=Dr (D.ka cls x c++D.nD cls x c y);rw[aU]at N;have p:=Aa cls (ix (D.bV x c) (y:Int)) (dq (D.ka cls x c++D.nD cls x c y)) (λz O=>by rw[d];exact H.2 z O) J aa
   rw[<-T6]at p;have P:=Dr (D.ka cls x c++D.nD cls x c y++(ix (D.bV x c) (y:Int)).map (ix cls));rw[aU,aU,dA]at P;have a:=Aa cls (ix (D.bV y c) (x:Int)) (dq (D.ka cls x c++D.nD cls x c y++(ix (D.bV x c) (y:Int)).map (ix cls))) (λz O=>by rw[d];exact I.2 z O) (by simp[Vd.ka,dq,AZ]) aa
   rw[<-T6]at a;have e1:D.ka cls x c++D.nD cls x c y++(ix (D.bV x c) (y:Int)).map (ix cls)++(ix (D.bV y c) (x:Int)).map (ix cls)=D.ka cls x c++D.nD cls x c (y+1):=by rw[e0];simp
   rw[e1]at a;have Q:=az (show(y:Int)<(D.BL.length:Int)by omega)
   have R:=az (show(y:Int)<(D.K.length:Int)by omega)
   have S:=az (show(c:Int)<((ix D.BL (x:Int)).length:Int)by have:=h.rl x l;unfold Vd.row at this;omega)
   have T:=az (show(c:Int)<((ix D.BL (y:Int)).length:Int)by have:=h.rl y m;unfold Vd.row at this;omega)
   have U:=az (show(y:Int)<((ix (ix D.BL (x:Int)) (c:Int)).length:Int)by have:=q.c x c l w;unfold Vd.bV Vd.row at this;omega)
   have V:=az (show(x:Int)<((ix (ix D.BL (y:Int)) (c:Int)).length:Int)by have:=q.c y c m w;unfold Vd.bV Vd.row at this;omega)
   generalize dq (D.ka cls x c++D.nD cls x c y++(ix (D.bV x c) (y:Int)).map (ix cls))=M at *;unfold Vd.bV Vd.row at p a;generalize dq (D.ka cls x c++D.nD cls x c y)=B at *;simp[-aj,-List.map_append,R,Q,s,S,T,U,V,p,a];exact⟨aa,aD (y+1) ab rfl aa aa⟩
  .have ey:y=D.K.length:=by omega
   subst ey;have e3:=T8 (D:=D) (cls:=cls) (x:=x) (j:=c);simp[-aj,-List.map_append,m];exact⟨aa,aD (c+1) ab (by rw[e3]) aa aa⟩
 .have ec:c=D.n.calls.toNat:=by omega
  have o:=bX (show ¬(c:Int)<D.n.calls by omega)
  simp[-aj,-List.map_append,o];have W:view (Ds (dq (D.ka cls x c))) false vd (.sl 0 (dq (D.ka cls x c)).length 0 (dq (D.ka cls x c)).length)=some (.aF false (bK (dq (D.ka cls x c)))):=dQ (k:=11) (f:=AV.ik 4) (g:=AV.ik 4) (st:=.live) rfl rfl rfl λ_ _=>rfl;rw[W,ec]
  rfl
def Vd.A0 (D:Vd) (cls:List Int) (x:Nat):List Int:=dq (D.ka cls x D.n.calls.toNat)
def Vd.ju (D:Vd) (cls:List Int):List (List Int):=(List.range D.K.length).map (D.A0 cls)
def Dt:∀{l:List Int},dG (dq l)
 | [],x,b=>by simp[dq]at b
 |a::l,x,b=>by
  simp only[dq,AZ,iI,cY,b5,List.not_mem_nil,or_false]at b;rcases b with(rfl|rfl)|b
  .omega
  .omega
  .exact Dt (l:=l) x b
def Ac:∀w:List Int,fitAll (aM none) (bK w)=true
 | []=>rfl
 |a::w=>by
  have:=Ac w;simp only[bK,cS,fitAll]at this ⊢;rw[this];rfl
def Kv:∀w:List Int,(bK w).flatMap AV.cells=bK w
 | []=>rfl
 |a::w=>by
  have:=Kv w;simp only[bK,cS,iI]at this ⊢;rw[this];rfl
def Du:∀(i:Nat) (K:List (List Int)),(rb i K).length=K.length
 |_,[]=>rfl
 |i,k::K=>by simp only[rb,cO,Du (i+1) K]
variable{α:Type}
def Kw{A:List α}{z v:α}(h:A.length=x):(A++List.replicate (k+1) z).set x v=A ++ [v]++List.replicate k z:=by
 subst h;rw[List.set_append,ad aa,Nat.sub_self]
 simp[sC]
def amU (D:Vd) (h:j9 D) (cls:List Int) (o:cls.length=D.K.length):PC JB [D.vcs.av,iL cls]=some (.bM [iL (idxs (aG [] (D.ju cls)) (D.ju cls)),.int (aG [] (D.ju cls)).length]):=by
 refine bZ (aju rfl ?_);have A:=h.f.k;have B:(D.ju cls).length=D.K.length:=by simp[Vd.ju]
 have g:∀x,ba 1 (.str x)=true:=λ_=>rfl;simp[-aj,-List.map_replicate];refine⟨aa,?_⟩
 refine aK (λx:Nat=>[(2,.int x)]) (λx=>[⟨some 0,[],.map (rb 0 (aG [] ((D.ju cls).take x)))⟩,Zb (idxs (aG [] ((D.ju cls).take x)) ((D.ju cls).take x)++List.replicate (cls.length-x) 0)]) (λx=>x<=cls.length) (λx=>cls.length-x) 0 (by simp[du,aG,idxs,rb]) aa ?_
 intro x G
 by_cases H:x<cls.length
 .have u:=amT D h cls o x aa
  have tk:=gx (w:=D.ju cls) (k:=x) aa
  have C:ix (D.ju cls) (x:Int)=D.A0 cls x:=by
   unfold Vd.ju;rw[iR aa ax,aB (show x<(List.range D.K.length).length by simp;omega)]
   simp
  have z:=CU (l:=D.A0 cls x) Dt;have E:∀k∈aG [] ((D.ju cls).take x),dG k:=Dg ab λv F=>by
   obtain⟨y,_,rfl⟩:=cx.1 (List.mem_of_mem_take F);exact Dt
  have d:=xg (l:=D.A0 cls x) Dt 0 _ E;have a:=Dh (K:=[]) (vs:=(D.ju cls).take x) (l:=D.A0 cls x);have b:=xi (K:=[]) (vs:=(D.ju cls).take x) (l:=D.A0 cls x);rw[C]at tk;have i:(idxs (aG [] ((D.ju cls).take x)) ((D.ju cls).take x)).length=x:=ng
  have j : PC CJ [D.vcs.av,iL cls,.int x]=some (.aF false (bK (D.A0 cls x))):=u;clear u;generalize D.A0 cls x=w at *;generalize I:(D.ju cls).take x=V at *;have m:=az (show(x:Int)<(cls.length:Int)by omega)
  by_cases n:w∈aG [] V
  .rw[ae n]at d
   have e:fS (aG [] V) w=aG [] V:=ae n;rw[e]at b;generalize p:aG [] V=q at *;simp[-aj,-List.map_append,-List.map_replicate,m,j, Ac,Kv,z,d,g,Du];refine⟨Ac w,aa,aa,aa,aD (x+1) ab ?_ aa aa⟩
   rw[b]at a;rw[<-List.map_set,tk,b,a,show cls.length-x=(cls.length-(x+1))+1 by omega,Kw (by simpa using i)]
  .rw[ad n]at d
   have e:fS (aG [] V) w=aG [] V ++ [w]:=ad n;rw[e]at b;generalize p:aG [] V=q at *;simp[-aj,-List.map_append,-List.map_replicate,m,j, Ac,Kv,z,d,g,Du];have r:q.idxOf w=q.length:=uB n;refine⟨Ac w,aa,aa,aa,aD (x+1) ab ?_ aa aa⟩
   rw[b]at a;rw[<-List.map_set,tk,b,a,show cls.length-x=(cls.length-(x+1))+1 by omega,Kw (by simpa using i),De,r]
   simp
 .have ex:x=cls.length:=by omega
  subst ex;rw[eZ aa]
  have s:view [⟨some 0,[],.map (rb 0 (aG [] (D.ju cls)))⟩,Zb (idxs (aG [] (D.ju cls)) (D.ju cls))] false vd (.sl 1 cls.length 0 cls.length)=some (iL (idxs (aG [] (D.ju cls)) (D.ju cls))):=nU (st:=.live) rfl rfl ng
  simp[-aj,-List.map_append,-List.map_replicate,s,Du]
def Vd.ac (D:Vd) (st x:Int):Bool:=ix D.n.accept (ix (ix D.K x) st)
def Vd.im (D:Vd) (x i:Int):Int:=ix (ix D.IN x) i
def Vd.bk (D:Vd) (x c y r:Int):Int:=ix (ix (ix (ix D.BL x) c) y) r
inductive xo (D:Vd) (st:Int):Int->Int->Prop
 |acc (x y:Int):D.ac st x ≠ D.ac st y->xo D st x y
 |aQ (x y i:Int):0<=i->i<D.n.ak->xo D st (D.im x i) (D.im y i)->xo D st x y
 |bl (x y c z r:Int):0<=c->c<D.n.calls->0<=z->z<(D.K.length:Int)->0<=r->r<D.n.ah->xo D st (D.bk x c z r) (D.bk y c z r)->xo D st x y
 |br (x y c z r:Int):0<=c->c<D.n.calls->0<=z->z<(D.K.length:Int)->0<=r->r<D.n.ah->xo D st (D.bk z c x r) (D.bk z c y r)->xo D st x y
def Ua:∀{l m:List Int},(∀x∈l,0<=x/\x<=65535)->(∀x∈m,0<=x/\x<=65535)->dq l=dq m->l=m
 | [],[],_,_,_=>rfl
 | [],b::m,_,_,h=>by simp[dq,AZ]at h
 |a::l,[],_,_,h=>by simp[dq,AZ]at h
 |a::l,b::m,e,g,h=>by
  simp only[dq,AZ,iI,jD,mQ,List.cons.injEq]at h;have i:=e a ab
  have j:=g b ab
  rw[Ua (λx d=>e x fM) (λx d=>g x fM) h.2.2,show a=b by omega]
def Ad{α b:Type}{f g:α->List b}:∀{l:List α},(∀i∈l,(f i).length=(g i).length)->(l.flatMap f=l.flatMap g↔∀i∈l,f i=g i)
 | [],_=>by simp
 |a::l,h=>by
  have d:=Ad (l:=l) λi j=>h i (by simp[j])
  simp only[iI,b5,forall_eq_or_imp,<-d];exact⟨λe=>List.append_inj e (h a ab),λe=>by rw[e.1,e.2]⟩
def Dw(b:l.length=m.length):l.map (ix cls)=m.map (ix cls)↔∀i:Int,0<=i->i<(l.length:Int)->ix cls (ix l i)=ix cls (ix m i):=by
 constructor
 .intro e i a i1
  have d:=iR (f:=ix cls) (l:=l) a i1;have g:=iR (f:=ix cls) (l:=m) a aa
  rw[<-d,<-g,e]
 .intro h
  refine xc (by simpa using b) λi a i1=>?_
  simp at i1;rw[iR a i1,iR a aa]
  exact h i a i1
structure Dx (D:Vd) (cls:List Int) (x y:Int):Prop where
 e:ix cls x=ix cls y
 i:∀i,0<=i->i<D.n.ak->ix cls (D.im x i)=ix cls (D.im y i)
 l:∀c z r,0<=c->c<D.n.calls->0<=z->z<(D.K.length:Int)->0<=r->r<D.n.ah->ix cls (D.bk x c z r)=ix cls (D.bk y c z r)
 r:∀c z r,0<=c->c<D.n.calls->0<=z->z<(D.K.length:Int)->0<=r->r<D.n.ah->ix cls (D.bk z c x r)=ix cls (D.bk z c y r)
variable{y:Nat}
def amV(h:j9 D)(m:x<D.K.length) (o:y<D.K.length):D.ka cls x D.n.calls.toNat=D.ka cls y D.n.calls.toNat↔Dx D cls x y:=by
 have E:=(h.inl x m).1;have F:=(h.inl y o).1;have Q:=h.r;have R:=h.n;have p:∀c,c<D.n.calls.toNat->∀z,z<D.K.length->(D.xn cls x c z).length=(D.xn cls y c z).length:=λc a z b=>by
  simp only[Vd.xn,aU,dA,(h.r8 x c z m a b).1,(h.r8 y c z o a b).1,(h.r8 z c x b a m).1,(h.r8 z c y b a o).1]
 have u:∀c,c<D.n.calls.toNat->(D.nD cls x c D.K.length).length=(D.nD cls y c D.K.length).length:=λc a=>by
  simp only[Vd.nD,List.length_flatMap]
  congr 1
  exact eM λz b=>p c a z (bQ.1 b)
 have G:D.ka cls x D.n.calls.toNat=D.ka cls y D.n.calls.toNat↔ix cls (x:Int)=ix cls (y:Int)/\(ix D.IN (x:Int)).map (ix cls)=(ix D.IN (y:Int)).map (ix cls)/\∀c∈List.range D.n.calls.toNat,D.nD cls x c D.K.length=D.nD cls y c D.K.length:=by
  rw[<-Ad λc a=>u c (bQ.1 a)];unfold Vd.ka;simp only[jD,List.cons.injEq];exact⟨λe=>⟨e.1,List.append_inj e.2 ax⟩,λe=>⟨e.1,by rw[e.2.1,e.2.2]⟩⟩
 have B:∀c,c<D.n.calls.toNat->(D.nD cls x c D.K.length=D.nD cls y c D.K.length↔∀z∈List.range D.K.length,D.xn cls x c z=D.xn cls y c z):=λc a=>Ad λz b=>p c a z (bQ.1 b);have C:∀c,c<D.n.calls.toNat->∀z,z<D.K.length->(D.xn cls x c z=D.xn cls y c z↔(∀r,0<=r->r<D.n.ah->ix cls (D.bk x c z r)=ix cls (D.bk y c z r))/\∀r,0<=r->r<D.n.ah->ix cls (D.bk z c x r)=ix cls (D.bk z c y r)):=λc a z b=>by
  have H:=(h.r8 x c z m a b).1;have S:=(h.r8 y c z o a b).1;have I:=(h.r8 z c x b a m).1;have T:=(h.r8 z c y b a o).1;have w:D.xn cls x c z=D.xn cls y c z↔(ix (D.bV x c) (z:Int)).map (ix cls)=(ix (D.bV y c) (z:Int)).map (ix cls)/\(ix (D.bV z c) (x:Int)).map (ix cls)=(ix (D.bV z c) (y:Int)).map (ix cls):=by
   unfold Vd.xn;exact⟨λe=>List.append_inj e ax,λe=>by rw[e.1,e.2]⟩
  rw[w,Dw aa,Dw aa,H,I,show((D.n.ah.toNat:Nat):Int)=D.n.ah by omega]
  exact Iff.rfl
 rw[G];constructor
 .rintro⟨w,J,L⟩
  have q:=λc a z b=>(C c a z b).1 ((B c a).1 (L c (bQ.2 a)) z (bQ.2 b));refine⟨w,λi A i1=>(Dw aa).1 J i A aa,λc z r M N O P d j=>?_,λc z r M N O P d j=>?_⟩
  .have:=(q c.toNat aa z.toNat aa).1 r d j
   rwa [show((c.toNat:Nat):Int)=c by omega,show((z.toNat:Nat):Int)=z by omega]at this
  .have:=(q c.toNat aa z.toNat aa).2 r d j
   rwa [show((c.toNat:Nat):Int)=c by omega,show((z.toNat:Nat):Int)=z by omega]at this
 .intro g
  refine⟨g.e,(Dw aa).2 λi A i1=>g.i i A aa,λc a=>?_⟩
  have s :=bQ.1 a;refine(B c s).2 λz b=>(C c s z (bQ.1 b)).2 ⟨λr d j=>g.l c z r aa aa aa (by have:=bQ.1 b;omega) d j,λr d j=>g.r c z r aa aa aa (by have:=bQ.1 b;omega) d j⟩
def amW{K:List (List Int)}{a b:List Int}(d:a∈K) (e:b∈K) (h:K.idxOf a=K.idxOf b):a=b:=by
 have g:=List.idxOf_lt_length_of_mem d;have i:=List.idxOf_lt_length_of_mem e;have j:=List.getElem_idxOf g;have l:=List.getElem_idxOf i;rw[<-j,<-l]
 congr 1
variable{vs:List (List Int)}
def Ub{K:List (List Int)}(a:x<vs.length):ix (idxs K vs) (x:Int)=((K.idxOf (ix vs (x:Int)):Nat):Int):=by
 unfold idxs;rw[iR aa aa]
def amX(a:x<vs.length) (b:y<vs.length):ix (idxs (aG [] vs) vs) (x:Int)=ix (idxs (aG [] vs) vs) (y:Int)↔ix vs (x:Int)=ix vs (y:Int):=by
 rw[Ub a,Ub b];have d:ix vs (x:Int)∈aG [] vs:=qC (.inl (aJ aa aa))
 have g:ix vs (y:Int)∈aG [] vs:=qC (.inl (aJ aa aa))
 exact⟨λe=>amW d g aa,λe=>eD⟩
def Uc:∀(n:Nat) (vs:List (List Int)),vs.length=n->Can (idxs (aG [] vs) vs) (aG [] vs).length
 |0,vs,h=>by
  have:vs=[]:=dY h;subst this;exact Can.nil
 |n+1,vs,h=>by
  have a:vs ≠ []:=by intro e;subst e;simp at h
  obtain⟨d,v,rfl⟩:∃d v,vs=d ++ [v]:=⟨vs.dropLast,vs.getLast a,(List.dropLast_concat_getLast a).symm⟩;have g:=Uc n d cq
  rw[Dh,xi]
  by_cases b:v∈aG [] d
  .rw[show fS (aG [] d) v=aG [] d from ae b]
   exact g.old aa (by have:=List.idxOf_lt_length_of_mem b;omega)
  .rw[show fS (aG [] d) v=aG [] d ++ [v]from ad b,uB b,aU]
   exact g.new
def Can.put{c:List Int}{v:Nat}(h:Can c k) (hv:v<=k):Can (c ++ [(v:Int)]) (max k (v+1)):=by
 by_cases e:v<k
 .rw[show max k (v+1)=k by omega]
  exact h.old aa aa
 .have:v=k:=by omega
  subst this;rw[show max v (v+1)=v+1 by omega]
  exact h.new
structure Dy (D:Vd) (st:Int) (cls:List Int) (k:Nat):Prop where
 can:Can cls k
 len:cls.length=D.K.length
 sep:∀x y:Nat,x<D.K.length->y<D.K.length->ix cls (x:Int) ≠ ix cls (y:Int)->xo D st x y
 ac:∀x y:Nat,x<D.K.length->y<D.K.length->ix cls (x:Int)=ix cls (y:Int)->D.ac st x=D.ac st y
def Ud(a:x<D.K.length):ix (D.ju cls) (x:Int)=D.A0 cls x:=by
 unfold Vd.ju;rw[iR aa ax,aB (show x<(List.range D.K.length).length by simp;omega)]
 simp
def Ue(h:j9 D)(d:Can cls k) (o:cls.length=D.K.length)(e:x<D.K.length):∀v∈D.ka cls x D.n.calls.toNat,0<=v/\v<=65535:=by
 have p:=d.len;have q:=h.f.k;have key:∀l:List Int,(∀y∈l,0<=y/\y<(D.K.length:Int))->∀v∈l.map (ix cls),0<=v/\v<=65535:=λl g v a=>by
  obtain⟨y,j,rfl⟩:=cx.1 a;have m:=g y j;have:=d.eV _ (aJ (l:=cls) m.1 aa)
  omega
 intro v a;simp only[Vd.ka,Vd.nD,Vd.xn,jD,b5,cY,mW,bQ]at a;rcases a with rfl|a|⟨c,b, z,i,a|a⟩
 .have:=d.eV _ (aJ (l:=cls) (n:=(x:Int)) aa aa);omega
 .exact key _ (h.inl x e).2 v a
 .exact key _ (h.r8 x c z e b i).2 v a
 .exact key _ (h.r8 z c x i b e).2 v a
def Dz(h:j9 D)(d:Can cls k) (g:cls.length=D.K.length)(a:x<D.K.length) (b:y<D.K.length):ix (idxs (aG [] (D.ju cls)) (D.ju cls)) (x:Int)=ix (idxs (aG [] (D.ju cls)) (D.ju cls)) (y:Int)↔Dx D cls x y:=by
 have i:(D.ju cls).length=D.K.length:=by simp[Vd.ju]
 rw[amX aa aa,Ud a,Ud b,<-amV h a b]
 exact⟨λe=>Ua (Ue h d g a) (Ue h d g b) e,λe=>by unfold Vd.A0;rw[e]⟩
variable{st:Int}
def xo.of(h:j9 D)(hc:Dy D st cls k)(hx:x<D.K.length) (hy:y<D.K.length) (hn:¬Dx D cls x y):xo D st x y:=by
 have key:∀a b:Int,0<=a->a<(D.K.length:Int)->0<=b->b<(D.K.length:Int)->ix cls a ≠ ix cls b->xo D st a b:=λa b a0 a1 b0 b1 w3=>by
  have:=hc.sep a.toNat b.toNat aa aa
  rw[show((a.toNat:Nat):Int)=a by omega,show((b.toNat:Nat):Int)=b by omega]at this
  exact this w3
 have MC:∀x:Nat,x<D.K.length->∀i,0<=i->i<D.n.ak->0<=D.im x i/\D.im x i<(D.K.length:Int):=λx hx i i0 i1=>by
  have:=h.inl x hx;exact this.2 _ (aJ i0 aa)
 have vV:∀x z:Nat,x<D.K.length->z<D.K.length->∀c r,0<=c->c<D.n.calls->0<=r->r<D.n.ah->0<=D.bk x c z r/\D.bk x c z r<(D.K.length:Int):=λx z hx hz c r c0 c1 r0 r1=>by
  have:=h.r8 x c.toNat z hx aa hz
  unfold Vd.bV Vd.row at this;rw[show((c.toNat:Nat):Int)=c by omega]at this
  exact this.2 _ (aJ r0 aa)
 refine dF λDA=>hn ⟨dF λe=>DA (hc.sep x y hx hy e),λi i0 i1=>dF λe=>DA ?_,λc z r c0 c1 z0 z1 r0 r1=>dF λe=>DA ?_,λc z r c0 c1 z0 z1 r0 r1=>dF λe=>DA ?_⟩
 .have a:=MC x hx i i0 i1
  have b:=MC y hy i i0 i1;exact .aQ _ _ i i0 i1 (key _ _ a.1 a.2 b.1 b.2 e)
 .have a:=vV x z.toNat hx aa c r c0 c1 r0 r1
  have b:=vV y z.toNat hy aa c r c0 c1 r0 r1
  rw[show((z.toNat:Nat):Int)=z by omega]at a b
  exact .bl _ _ c z r c0 c1 z0 z1 r0 r1 (key _ _ a.1 a.2 b.1 b.2 e)
 .have a:=vV z.toNat x aa hx c r c0 c1 r0 r1
  have b:=vV z.toNat y aa hy c r c0 c1 r0 r1
  rw[show((z.toNat:Nat):Int)=z by omega]at a b
  exact .br _ _ c z r c0 c1 z0 z1 r0 r1 (key _ _ a.1 a.2 b.1 b.2 e)
def Dy.next(h:j9 D)(hc:Dy D st cls k):Dy D st (idxs (aG [] (D.ju cls)) (D.ju cls)) (aG [] (D.ju cls)).length:=by
 have Uf:(D.ju cls).length=D.K.length:=by simp[Vd.ju]
 refine⟨Uc _ _ rfl,by simp[idxs,Uf],λx y hx hy e=>?_,λx y hx hy e=>?_⟩
 .exact xo.of h hc hx hy λg=>e ((Dz h hc.can hc.len hx hy).2 g)
 .exact hc.ac x y hx hy ((Dz h hc.can hc.len hx hy).1 e).e
structure XN (D:Vd) (st:Int) (cls:List Int) (k:Nat):Prop where
 c:Dy D st cls k
 Kx:∀x y:Nat,x<D.K.length->y<D.K.length->ix cls (x:Int)=ix cls (y:Int)->Dx D cls x y
def Dy.stop(h:j9 D)(hc:Dy D st cls k):((aG [] (D.ju cls)).length=k->XN D st cls k)/\k<=(aG [] (D.ju cls)).length:=by
 have hn:=hc.next h
 have hl:=hc.len;have uc:=hn.len;have:=hn.can.ref hc.can aa λi j hi hj e=>((Dz h hc.can hc.len aa aa).1 e).e
 rcases this with⟨e1,e2⟩|cm
 .exact⟨λ_=>⟨hc,λx y hx hy e=>(Dz h hc.can hc.len hx hy).1 (by rw[e1];exact e)⟩,aa⟩
 .exact⟨λe=>aa,aa⟩
def Vd.iV (D:Vd):Int:=ix D.plc D.n.start
def Vd.f0 (D:Vd) (x:Nat):Nat:=if D.ac D.iV (x:Int)=D.ac D.iV 0 then 0 else 1
def Vd.cn (D:Vd):Nat->Nat
 |0=>0
 |x+1=>max (D.cn x) (D.f0 x+1)
def Vd.fs (D:Vd) (x:Nat):List Int:=(List.range x).map λy=>((D.f0 y:Nat):Int)
def Ug:D.fs (x+1)=D.fs x ++ [((D.f0 x:Nat):Int)]:=by simp[Vd.fs,jh]
def DB:(D.fs x).length=x:=by simp[Vd.fs]
def EU:D.f0 x<=1:=by unfold Vd.f0;split<;>omega
def Uh{D:Vd}:∀x:Nat,Can (D.fs x) (D.cn x)/\(0<x->1<=D.cn x)/\D.cn x<=2
 |0=>⟨Can.nil,aa,by simp[Vd.cn]⟩
 |x+1=>by
  obtain⟨a,b,g⟩:=Uh (D:=D) x;have h:=EU (D:=D) (x:=x);have d:D.f0 x<=D.cn x:=by
   by_cases e:x=0
   .subst e;simp[Vd.f0]
   .have:=b aa;omega
  rw[Ug];refine⟨a.put d,λ_=>?_,?_⟩
  .show 1<=max (D.cn x) (D.f0 x+1);omega
  .show max (D.cn x) (D.f0 x+1)<=2;omega
def DC{f:Nat}{args:List AV}{g:α->AV}{R:α->Prop}(h:LX L f args [] (λr τ=>∃a,bP τ false r=some (g a)/\R a)):∃a,PC f args=some (g a)/\R a:=by
 obtain⟨r,τ,b,a,d,e⟩:=dd h;refine⟨a,?_,e⟩;unfold PC rW;rw[b];exact d
def amY (D:Vd) (h:j9 D) (Y:tF D) (m:D.n.start<(D.plc.length:Int)) (a:0<=D.iV/\D.iV<(D.n.bj.length:Int)) :
  LX L Ct [D.vcs.av] [] (λr τ=>∃q:List Int×Nat,bP τ false r=some (.bM [iL q.1,.int q.2])/\XN D D.iV q.1 q.2):=by
 refine aiX rfl ?_;have hfk:=h.f.k;have o:=Y.ok.start;have O:=h.k;have P:∀x:Nat,x<D.K.length->D.iV<((ix D.K (x:Int)).length:Int)/\0<=ix (ix D.K (x:Int)) D.iV/\ix (ix D.K (x:Int)) D.iV<(D.n.accept.length:Int):=λx d=>by
  have:=Y.kx d;have p:D.iV<((ix D.K (x:Int)).length:Int):=by rw[this.2];exact a.2
  exact⟨p,this.1 _ (aJ a.1 p)⟩
 unfold Vd.iV at a P;have s:=P 0 O;have z:=az (show 0<(D.K.length:Int)by omega)
 rw[show((0:Nat):Int)=0 from rfl]at s;simp[-aj,-List.map_replicate,o.1,m];refine⟨aa,?_⟩
 refine aK (λx:Nat=>[(1,.int x),(8,.int (D.cn x))]) (λx=>[Zb (D.fs x++List.replicate (D.K.length-x) 0)]) (λx=>x<=D.K.length) (λx=>D.K.length-x) 0 (by simp[du,Vd.cn,Vd.fs]) aa ?_
 intro x x0;have Q:=Uh (D:=D) x
 by_cases d:x<D.K.length
 .have B:=P x d
  have C:(ix D.n.accept (ix (ix D.K (x:Int)) (ix D.plc D.n.start))=ix D.n.accept (ix (ix D.K 0) (ix D.plc D.n.start)))=(D.f0 x=0):=by
   apply propext;unfold Vd.f0 Vd.ac Vd.iV
   by_cases e:ix D.n.accept (ix (ix D.K (x:Int)) (ix D.plc D.n.start))=ix D.n.accept (ix (ix D.K 0) (ix D.plc D.n.start))
   .simp[e]
   .simp[e]
  have M:=Ug (D:=D) (x:=x);have p:=DB (D:=D) (x:=x);have g:D.cn (x+1)=max (D.cn x) (D.f0 x+1):=rfl;have hr:D.K.length-x=(D.K.length-(x+1))+1:=aa
  have Z:ix (D.fs x++List.replicate (D.K.length-(x+1)+1) 0) (x:Int)=0:=by
   rw[aB ax,List.getElem_append_right aa];simp
  have E:(D.fs x++List.replicate (D.K.length-(x+1)+1) 0).set x 1=D.fs x ++ [1]++List.replicate (D.K.length-(x+1)) 0:=Kw p;have R:ix (D.fs x ++ [1]++List.replicate (D.K.length-(x+1)) 0) (x:Int)=1:=by
   rw[aB ax,List.getElem_append_left ax,List.getElem_append_right aa];simp[p]
  have F:List.replicate (D.K.length-(x+1)+1) (0:Int)=[0]++List.replicate (D.K.length-(x+1)) 0:=by rw[sC];rfl
  have hf1:=EU (D:=D) (x:=x);generalize D.fs x=A at *;generalize hcx:D.cn x=k at *;rw[hr]
  by_cases S:D.f0 x=0
  .rw[S]at M g
   simp[-aj,-List.map_append,-List.map_replicate,d,B,s,o.1,m,a.1,z,C,S,Z,p];have u:A++List.replicate (D.K.length-(x+1)+1) (0:Int)=A ++ [((0:Nat):Int)]++List.replicate (D.K.length-(x+1)) 0:=by rw[F];simp
   exact⟨aa,aa,aa,aD (x+1) (by rw[g];simp;omega) (by rw[M,u]) aa aa⟩
  .have T:D.f0 x=1:=by omega
   rw[T]at M g;have Ae:((A++List.replicate (D.K.length-(x+1)+1) 0).map AV.int).set x (AV.int 1)=(A ++ [1]++List.replicate (D.K.length-(x+1)) 0).map AV.int:=by rw[<-List.map_set,E]
   have G:A++(List.replicate (D.K.length-(x+1)+1) (0:Int)).set 0 1=A ++ [1]++List.replicate (D.K.length-(x+1)) 0:=by rw[sC];simp
   simp[-aj,-List.map_append,-List.map_replicate,-List.append_assoc,d,B,s,o.1,m,a.1,z,C,S,Z,p,G,R];exact⟨aa,aa,aa,aa,aa,aD (x+1) (by rw[g];simp;omega) (by rw[M];simp) aa aa⟩
 .have ex:x=D.K.length:=by omega
  subst ex;rw[Nat.sub_self,List.replicate_zero,List.append_nil];simp[-aj];refine qD (b:=0) (l:=D.fs D.K.length) ?_ ab DB.symm ?_
  .unfold bp
   rw[ad λe=>by have:=DB (D:=D) (x:=D.K.length);rw[e]at this;simp at this;omega]
  have h0:Dy D D.iV (D.fs D.K.length) (D.cn D.K.length):=by
   have i:∀x:Nat,x<D.K.length->ix (D.fs D.K.length) (x:Int)=((D.f0 x:Nat):Int):=λx d=>by
    unfold Vd.fs;rw[iR aa ax,aB (show x<(List.range D.K.length).length by simp;omega)]
    simp
   refine⟨Q.1,DB,λx y d U e=>?_,λx y d U e=>?_⟩
   .rw[i x d,i y U]at e
    refine .acc _ _ λu=>e ?_;unfold Vd.f0;rw[u]
   .rw[i x d,i y U]at e
    unfold Vd.f0 at e
    by_cases V:D.ac D.iV (x:Int)=D.ac D.iV 0<;>by_cases u:D.ac D.iV (y:Int)=D.ac D.iV 0
    .rw[V,u]
    .simp[V,u]at e
    .simp[V,u]at e
    .cases h1:D.ac D.iV (x:Int)<;>cases h2:D.ac D.iV (y:Int)<;>cases h3:D.ac D.iV 0<;>simp_all
  simp[-aj];refine aK (λq:Bool×List Int×Nat=>[(1,if q.1 then .int D.K.length else .aO),(2,if q.1 then .int D.K.length else .aO),(3,if q.1 then b8 D.K else .aO),(5,if q.1 then .int (ix D.plc D.n.start)else .aO),(6,.aF (q.1 && !decide (D.fs D.K.length=[])) (q.2.1.map .int)),(8,.int q.2.2)]) (λ_=>ar [Zb (D.fs D.K.length)] 0 ⟨none,(D.fs D.K.length).map .int,.dead⟩) (λq=>Dy D D.iV q.2.1 q.2.2) (λq=>D.K.length+1-q.2.2) (true,D.fs D.K.length,D.cn D.K.length) aX h0 ?_
  rintro⟨b,cls,k⟩ N;dsimp only at N ⊢;have j:=amU D h cls N.len;obtain⟨H, aqD⟩:=N.stop h;have W:=N.next h
  have X:=W.can.len;rw[W.len]at X;generalize idxs (aG [] (D.ju cls)) (D.ju cls)=I at *;generalize (aG [] (D.ju cls)).length=J at *
  by_cases hk:J=k
  .have w :=az (show(J:Int)=(k:Int)by omega)
   simp[-aj,j,w];exact⟨cls,J,⟨rfl,rfl⟩,by rw[hk];exact H hk⟩
  .have w :=bX (show ¬(J:Int)=(k:Int)by omega)
   simp[-aj,j,w];exact aD (false,I,J) ab rfl W au
def amZ (D:Vd) (h:j9 D) (d:tF D) (a:D.n.start<(D.plc.length:Int)) (b:0<=D.iV/\D.iV<(D.n.bj.length:Int)) :
  ∃q:List Int×Nat,PC Ct [D.vcs.av]=some (.bM [iL q.1,.int q.2])/\XN D D.iV q.1 q.2:=DC (g:=λq:List Int×Nat=>.bM [iL q.1,.int q.2]) (amY D h d a b)
end Ab
