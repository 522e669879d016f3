/- Comparisons, sorted words, in memory; and what it leans on. Condition: none. -/
import Derived.Test.YtdenhmniigikcaaGreatBfsOrd
import Derived.Test.YtdenhmniigikcaaGreatN44J
import Derived.Test.YtdenhmniigikcaaGreatCan
set_option linter.all false
set_option maxRecDepth 100000
set_option maxHeartbeats 4000000
open Option renaming some->aa,none->ab
open Bool renaming true->ad,false->ae
open List renaming range->af,replicate->ag,length->ah
open Int renaming toNat->aj
namespace Ab
def cI (x y:Int):Int:=if x<y then -1 else if y<x then 1 else 0
def anq (x:Int):PC ER [.int x]=aa (.bool ae):=by
 refine cB (akO rfl ?_);simp
def Va (x y:Int):PC EM [.int x,.int y]=aa (.int (cI x y)):=by
 refine cB (akq rfl ?_);simp[anq];refine⟨λh=>by simp[cI,h],λh=>⟨λk=>?_,λk=>?_⟩⟩
 .simp[cI,k];omega
 .simp[cI];omega
def anr (x y:Int):PC KV [.aX ae [.int x,.int y]]=aa (.int (if x=0 then y else x)):=by
 refine cB (akp rfl ?_);have e:(.aX ae [.int x,.int y]:AV)=iL [x,y]:=rfl;rw[e];simp only[iL];generalize b:[x,y]=l;have hlen:ah l=2:=by rw[<-b];rfl
 simp[hlen];refine bB (λi:Int=>[(1,.int i)]) (λ_=>[]) (λi=>0<=i/\i<=2/\∀j,0<=j->j<i->ix l j=0) (λi=>aj (2-i)) 0 rfl ⟨ax,ax,oQ⟩ λi ⟨o,i1,a⟩=>?_
 have e0:ix l 0=x:=by rw[<-b];rfl
 have d:ix l 1=y:=by rw[<-b];rfl
 by_cases g:i<2
 .simp[-aK,g,o,hlen]
  refine⟨λh=>⟨ax,a8 (i+1) rfl rfl ⟨ax,ax,iY h a⟩ ax⟩,λh=>?_⟩
  by_cases e:i=0
  .subst e;rw[e0]at h ⊢;simp[h]
  .have:i=1:=by omega
   subst this;have:=a 0 ax ax
   rw[e0]at this;rw[d];simp[this]
 .have m:=a 0 ax ax
  have n:=a 1 ax ax
  rw[e0]at m;rw[d]at n;simp[g,m,n]
def ant{a b:ak}{i:Int}(d:0<=i) (e:i<ah a) (g:i<ah b):dx (a.drop (aj i)) (b.drop (aj i))=if cI (ix a i) (ix b i)=0 then dx (a.drop (aj (i+1))) (b.drop (aj (i+1)))else cI (ix a i) (ix b i):=by
 rw[Ej d e,Ej d g];unfold cI;simp only[dx];split
 .simp
 .split<;>simp
def anu (a b:ak) (m:(ah a:Int)<=9223372036854775807) (n:(ah b:Int)<=9223372036854775807):PC KW [iL a,iL b]=aa (.int (dx a b)):=by
 refine cB (akr rfl ?_);simp;refine bB (λi:Int=>[(2,.int i)]) (λ_=>[]) (λi=>0<=i/\i<=ah a/\i<=ah b/\dx (a.drop (aj i)) (b.drop (aj i))=dx a b) (λi=>aj (ah a-i)) 0 rfl ⟨ax,ax,ax,rfl⟩ λi ⟨g,i1,o,d⟩=>?_
 by_cases j:i<ah a
 .by_cases l:i<ah b
  .have e:=ant g j l
   rw[d]at e;simp[-aK,j,l,g,Va,show ¬(ah b:Int)<=i by omega]
   refine⟨λh=>⟨ax,a8 (i+1) rfl rfl ⟨ax,ax,ax,by rw[aD h]at e;exact e.symm⟩ ax⟩,λh=>by rw[aC h]at e;exact e.symm⟩
  .have e:b.drop (aj i)=[]:=II ax
   rw[e,Ej g j]at d;have d:(1:Int)=dx a b:=d;simp[-aK,j,l,g,show(ah b:Int)<=i by omega]
   exact d
 .have e:a.drop (aj i)=[]:=II ax
  rw[e]at d;simp[j]
  by_cases l:i<ah b
  .rw[Ej g l]at d
   have d:(-1:Int)=dx a b:=d;exact⟨λ_=>d,λh=>ax⟩
  .rw[II ax]at d
   have d:(0:Int)=dx a b:=d;exact⟨λh=>ax,λ_=>d⟩
def zz (a b:ak) (d:(ah a:Int)<=9223372036854775807) (e:(ah b:Int)<=9223372036854775807):PC oP [iL a,iL b]=aa (.int (bD a b)):=by
 refine cB (ajV rfl ?_);simp[Va,anu a b d e,anr];unfold bD cI
 (repeat' split)<;>first|rfl|omega
abbrev G1:=ak->ak->Int
section
variable{K:G1}
def tE (K:G1) (x:ak):al->al
 | []=>[x]
 |y::r=>if K x y<=0 then x::y::r else y::tE K x r
def gj (K:G1):al->al
 | []=>[]
 |x::r=>tE K x (gj K r)
def Vb (x:ak):∀l:al,sR K (iL x) (l.map iL)=(tE K x l).map iL
 | []=>rfl
 |y::r=>by
  have e:vG K (iL x) (iL y)=decide (K x y<=0):=by
   unfold vG;rw[show cD (iL x)=aa x from yJ x,show cD (iL y)=aa y from yJ y]
  simp only[da,sR,tE,e,Vb x r]
  by_cases h:K x y<=0<;>simp[h]
def Vc:∀l:al,eU K (l.map iL)=(gj K l).map iL
 | []=>rfl
 |x::r=>by simp only[da,eU,gj,Vc r,Vb]
def L2 (x:ak):∀l,(tE K x l).Perm (x::l)
 | []=>.refl _
 |y::r=>by
  unfold tE;split
  .exact .refl _
  .exact((L2 x r).cons y).trans (.swap x y r)
def Fu:∀l,(gj K l).Perm l
 | []=>.refl _
 |x::r=>(L2 x _).trans ((Fu r).cons x)
def anv (a:v7 K){u v:ak}(h:¬K u v<=0):K v u<=0:=by have:=a.gV u v;omega
def Ve (g:v7 K) (x:ak):∀{l:al},l.Pairwise (λa b=>K a b<=0)->(tE K x l).Pairwise (λa b=>K a b<=0)
 | [],_=>by simp[tE]
 |y::r,h=>by
  rw[jV]at h;unfold tE;split
  .rename_i e
   rw[jV,jV];refine⟨λa d=>?_,h⟩;rcases cC.1 d with rfl|d
   .exact e
   .exact g.trans _ _ _ e (h.1 a d)
  .rename_i e
   rw[jV];refine⟨λa d=>?_,Ve g x h.2⟩;rcases cC.1 ((L2 x r).mem_iff.1 d)with rfl|d
   .exact anv g e
   .exact h.1 a d
def Vf (d:v7 K):∀l,(gj K l).Pairwise (λa b=>K a b<=0)
 | []=>.nil
 |x::r=>Ve d x (Vf d r)
def hZ (l:al):Nat->al
 |0=>[]
 |n+1=>if 0<n/\ix l (n:Int)=ix l ((n:Int)-1)then hZ l n else hZ l n ++ [ix l (n:Int)]
def gL (l:al):al:=hZ l (ah l)
def Vg (l:al):∀n,ah (hZ l n)<=n
 |0=>by simp[hZ]
 |n+1=>by
  have:=Vg l n;unfold hZ;split
  .omega
  .simp;omega
def L3{l:al}:∀{n:Nat}{w:ak},n<=ah l->(w∈hZ l n↔∃j:Int,0<=j/\j<n/\ix l j=w)
 |0,w,_=>by simp[hZ];intro j;omega
 |n+1,w,h=>by
  have g:=λw=>L3 (l:=l) (n:=n) (w:=w) ax
  unfold hZ;split
  .rename_i i
   rw[g];constructor
   .rintro⟨j,a,b,e⟩;exact⟨j,a,ax,e⟩
   .rintro⟨j,a,b,e⟩
    by_cases d:j=(n:Int)
    .subst d;exact⟨(n:Int)-1,ax,ax,by rw[<-i.2];exact e⟩
    .exact⟨j,a,ax,e⟩
  .rw[dI,g]
   constructor
   .rintro(⟨j,a,b,e⟩|e)
    .exact⟨j,a,ax,e⟩
    .simp at e;exact⟨n,ax,ax,e.symm⟩
   .rintro⟨j,a,b,e⟩
    by_cases d:j=(n:Int)
    .subst d;right;simp[e]
    .left;exact⟨j,a,ax,e⟩
variable{l:al}{w:ak}
def anw:w∈gL l↔w∈l:=by
 unfold gL;rw[L3 (bG _)];constructor
 .rintro⟨j,a,b,rfl⟩;exact bh a b
 .intro h
  obtain⟨i,d,rfl⟩:=fY.1 h;exact⟨i,ax,ax,bt d⟩
abbrev Fv (K:G1) (l:al):Prop:=l.Pairwise λa b=>K a b<0
def G2 (d:v7 K)(h:l.Pairwise (λa b=>K a b<=0)){i j:Int}(g:0<=i) (m:i<=j) (n:j<ah l):K (ix l i) (ix l j)<=0:=by
 by_cases e:i=j
 .subst e;exact Int.le_of_eq (d.refl _)
 .rw[rI]at h
  have:=h (aj i) (aj j) ax ax ax
  rw[<-bt ax,<-bt ax]at this
  rwa [show((aj i:Nat):Int)=i by omega,show((aj j:Nat):Int)=j by omega]at this
def Vh (d:v7 K){l:al}(h:l.Pairwise (λa b=>K a b<=0)):∀{n:Nat},n<=ah l->Fv K (hZ l n)
 |0,_=>.nil
 |n+1,w=>by
  have i:=Vh d h (n:=n) ax
  unfold hZ;split
  .exact i
  .rename_i g
   rw[Fv,List.pairwise_append];refine⟨i,aA,λa p b m=>?_⟩
   simp at m;subst m;obtain⟨j,q,x,rfl⟩:=(L3 ax).1 p
   have r:0<n:=ax
   have o:=G2 d h q (show j<=(n:Int)-1 by omega) ax
   have s:=G2 d h (show 0<=(n:Int)-1 by omega) (show(n:Int)-1<=n by omega) ax
   have y:¬K (ix l ((n:Int)-1)) (ix l n)=0:=λe=>g ⟨r,(d.eq _ _ e).symm⟩;have z:=d.trans _ _ _ o s
   by_cases e:K (ix l j) (ix l n)=0
   .have u :=d.eq _ _ e
    rw[u]at o;have:=d.gV (ix l n) (ix l ((n:Int)-1));omega
   .omega
def mK (K:G1) (l:al):al:=gL (gj K l)
def Vi:w∈mK K l↔w∈l:=by
 unfold mK;rw[anw,(Fu l).mem_iff]
def anx (a:v7 K) (l:al):Fv K (mK K l):=Vh a (Vf a l) (bG _)
def Vj (l:al):ah (gL l)<=ah l:=Vg l _
def Fw (l:al):ah (gj K l)=ah l:=(Fu l).length_eq
end
abbrev vI (l:al):Prop:=Fv bD l
abbrev fP (l:al):al:=mK bD l
def vh{l:al}{w:ak}:w∈fP l↔w∈l:=Vi
def anz{ce:CE}{g:Nat}{a d:ao}(h:agree ce g a bD d=ad) (k:agree ce g a dx d=ad):eU bD d=eU dx d:=by
 have p:lq d:=λx j=>by
  obtain⟨u,v,l,_⟩:=sT h j j;exact⟨u,l⟩
 refine Pq Pn p (wa d) ?_;have s:=H2 dO p;refine s.imp_of_mem fun {x y} j w o=>?_;have b :=(wa d).mem_iff.1 j;have i :=(wa d).mem_iff.1 w;obtain⟨u,v,l,q,z⟩:=sT h b i;obtain⟨A, B, m,n,r⟩:=sT k b i;rw[l]at m;rw[q]at n;injection m with m;injection n with n
 subst m;subst n;rw[z]at r;have e:bD u v=dx u v:=by simpa using r
 rw[sS l q]at o ⊢;omega
structure Vk (f:Nat) (K:G1):Prop where
 ok:v7 K
 run:∀a b:ak,(ah a:Int)<=1000000->(ah b:Int)<=1000000->PC f [iL a,iL b]=aa (.int (K a b))
 one:K=bD\/K=dx
def anA:Vk oP bD:=⟨dO,λa b d e=>zz a b ax ax,.inl rfl⟩
section
variable{K:G1}
abbrev LB (ws:al) (k:Nat):aO:=⟨ab,ws.map iL++ag k .aJ,.live⟩
abbrev Lb (ws:al):aO:=⟨ab,ws.map iL,.live⟩
abbrev qR (ws:al):Prop:=∀w∈ws,(ah w:Int)<=1000000
def L4 (w:ak) (h:(ah w:Int)<=1000000):PC pL [iL w]=aa (iL w):=by
 first
 |(
  have e:xI (cN G Q 0) [iL w]=aa (iL w):=by
   simp only[xI,iL];rw[aD];simp[isScalar]
   try omega
  have:=BN e;unfold PC Aj;rw[this]
  rfl)
 |(
  cases w with
  |nil=>
   have e:gw (cN G Q 0) [iL []] []=aa (.emp,[]):=rfl;have:=BN e;unfold PC Aj;rw[this]
   rfl
  |cons x l=>
   have e:gw (cN G Q 0) [iL (x::l)] []=aa (.sl 0 (ah (x::l)) 0 (ah (x::l)),[⟨ab,(x::l).map .int,.live⟩]):=by
    simp only[gw,iL,da];rw[aD]
    .simp
    .simp[isScalar,eE]
     simp at h;omega
   have:=BN e;unfold PC Aj;rw[this];exact sw rfl rfl rfl)
variable{σ:aq}{b u:Nat}
def anB{vars env:ao}{x:Rf}{z:ao}{k:Option Nat}{a:aq}{K:ao->aq->aq->Prop}{off len:Nat}{B:aO}(d:rv vars env x = .sl b u off len) (e:upto σ b u=aa B) (g:0<len/\off+len*ba k<=ah B.cells/\ba B.k=ba k/\ah z=ba k/\B.st.isLive=ad):cG L vars (.xF x z k) ae env a σ K=K (.aW::env) [] (aV σ b ⟨B.k,putAt B.cells off (fx len z),B.st⟩):=by
 show bA (gS L σ (rv vars env) (.xF x z k)) (λp=>K (p.1::env) [] p.2)=_;simp only[gS,d,e];rw[aD g];rfl
variable{vs:al}
def Vl(h:hZ vs (ah vs)=vs.take (ah vs)):gL vs=vs:=by unfold gL;rw[h,List.take_length]
theorem Vm(h:0<ah vs):hZ vs 1=vs.take 1:=by
 match vs,h with
 |x::r,_=>rfl
variable{k:Int}
def Vn(k0:1<=k) (h:ix vs k=ix vs (k-1)):hZ vs (aj (k+1))=hZ vs (aj k):=by
 rw[show(aj (k+1))=aj k+1 by omega]
 conv=>lhs;unfold hZ
 rw[aD ⟨ax,by rw[show((aj k:Nat):Int)=k by omega];exact h⟩]
def Vo(k0:1<=k) (h:¬ix vs k=ix vs (k-1)):hZ vs (aj (k+1))=hZ vs (aj k) ++ [ix vs k]:=by
 rw[show(aj (k+1))=aj k+1 by omega]
 conv=>lhs;unfold hZ
 rw[aC (λ⟨_,e⟩=>h (by rwa [show((aj k:Nat):Int)=k by omega]at e)),show((aj k:Nat):Int)=k by omega]
def anC(a:0<=k) (b:k<ah vs):vs.take (aj (k+1))=vs.take (aj k) ++ [ix vs k]:=by
 rw[show(aj (k+1))=aj k+1 by omega,pE,mf a b];rfl
def anD{ws:al}(h:qR ws):qR (gj K ws):=λw a=>h w ((Fu ws).mem_iff.1 a)
def anE (ws:al) (b:ws ≠ []) (m:(ah ws:Int)<=1000000):L BG [bU ws] []=aa (.sl 0 (ah ws) 0 (ah ws),[Lb ws]):=by
 refine S9 (N:=0) ?_;obtain⟨x,l,rfl⟩:∃x l,ws=x::l:=by
  cases ws with
  |nil=>exact absurd rfl b
  |cons x l=>exact⟨x,l,rfl⟩
 have d:∀k:al,(k.map iL).all sj=ad:=λk=>by simp[sj]
 have e:∀k:al,aY (k.map iL)=ad:=λk=>by
  induction k with
  |nil=>rfl
  |cons a r g=>simp only[da,aY,bC,Bool.true_and];exact g
 have h:ah ((x::l).map iL)<=eE:=by rw[db];show(ah (x::l))<=1073741824;omega
 have i:((x::l).map iL).map gJ=(x::l).map iL:=by simp[gJ]
 have j:(((x::l).map iL).all sj&&aY ((x::l).map iL)&&decide (ah ((x::l).map iL)<=eE))=ad:=by
  rw[d,e,qv h];rfl
 show iI (cN G Q 0) [.aX ae (iL x::l.map iL)] []=_;unfold iI;refine(aD j).trans ?_;rw[show(iL x::l.map iL)=(x::l).map iL from rfl,i,db]
 rfl
def Vp{a:Type}{f:a->AV}{rest:ao}:∀{xs:List a},chunk ab (ah xs) (xs.map f++rest)=xs.map f
 | []=>rfl
 |x::xs=>by
  have e:=Vp (f:=f) (rest:=rest) (xs:=xs);simp only[cT,da,kK,chunk,e]
variable{r:Nat}{xs:al}
def Vq{fr:Bool}{st:fR}(h:aQ σ b=aa ⟨ab,xs.map iL++ag r .aJ,st⟩) (d:st.gx=ad) (a:u=ah xs+r):view σ ae vd (.sl b u 0 (ah xs))=aa (bU xs):=by
 subst a;have a:upto σ b (ah xs+r)=aa ⟨ab,xs.map iL++ag r .aJ,st⟩:=by
  unfold upto;rw[h];cases st<;>simp at d ⊢
 show view σ ae (11+1) _=_;unfold view;simp only[a,ba,mG,gQ,Nat.mul_one];rw[aD aA,Vp,zr (f:=iL) (g:=iL) (v:=view σ ae 11) λ_ _=>rfl]
variable{i:Int}
def anF(a:0<=i) (b:i<ah xs):lU (xs.map iL++ag r AV.aJ) (aj i)=aa (iL (ix xs i)):=by
 rw[qJ,dq aT,gP,mf a b];rfl
def anG(a:0<=i) (b:i<ah xs):(xs.map iL++ag r AV.aJ).set (aj i) (iL (ix xs i))=xs.map iL++ag r AV.aJ:=by
 rw[qu,aD aT,<-List.map_set]
 congr 2
 have:ix xs i=xs[aj i]:=by
  have:=bt (l:=xs) (n:=aj i) ax
  rwa [show((aj i:Nat):Int)=i by omega]at this
 rw[this];exact List.set_getElem_self _
end
section
variable{f:Nat}{K:G1}(hF:Vk f K)
include hF
theorem anH (ws:al) (l:ws ≠ []) (w:(ah ws:Int)<=1000000) (j:qR ws):L BH [.sl 0 (ah ws) 0 (ah ws),.func f []] [Lb ws]=aa (.bY [],[Lb (gj K ws)]):=by
 have m:∀x∈ws.map iL,∀y∈ws.map iL,∃u v,cD x=aa u/\cD y=aa v/\j7 (lim G Q) f (x::y :: [])=aa (.int (K u v)):=by
  intro x n y o;obtain⟨u,i,rfl⟩:=cJ.1 n;obtain⟨v,p,rfl⟩:=cJ.1 o;refine⟨u,v,yJ u,yJ v,?_⟩;have:=hF.run u v (j u i) (j v p);unfold j7;rw[aD aA]
  exact this
 obtain⟨N,b⟩:=abA pM m;refine Ta (N:=N) ?_;have q:0<ah ws:=nc.2 l;have i:upto [Lb ws] 0 (ah ws)=aa (Lb ws):=by simp[upto,aQ]
 have d:ah (ws.map iL)<=eE:=by rw[db];show (ah ws)<=1073741824;omega
 simp only[nq,i];have r:(((ws.map iL).drop 0).take (ah ws))=ws.map iL:=by rw[mG,gN aA]
 rw[r];have a:((fR.live).isLive&&iS ab&&decide (0<ah ws)&&decide (0+ah ws<=ah (ws.map iL))&&decide (ah (ws.map iL)<=eE))=ad:=by
  simp only[db]at d ⊢;simp[q,fR.isLive,iS]
  try omega
 rw[aD a];have g:(if agree (cN G Q N) f [] bD (ws.map iL)=ad then aa (AV.bY [],aV [Lb ws] 0 ⟨ab,putAt (ws.map iL) 0 (eU bD (ws.map iL)),.live⟩)else if agree (cN G Q N) f [] dx (ws.map iL)=ad then aa (AV.bY [],aV [Lb ws] 0 ⟨ab,putAt (ws.map iL) 0 (eU dx (ws.map iL)),.live⟩)else ab)=aa (AV.bY [],aV [Lb ws] 0 ⟨ab,putAt (ws.map iL) 0 (eU K (ws.map iL)),.live⟩):=by
  rcases hF.one with e|e
  .rw[e]at b ⊢;rw[aD b]
  .rw[e]at b ⊢
   by_cases h:agree (cN G Q N) f [] bD (ws.map iL)=ad
   .rw[aD h,anz h b]
   .rw[aC h,aD b]
 rw[g,Vc];have s:putAt (ws.map iL) 0 ((gj K ws).map iL)=(gj K ws).map iL:=by
  unfold putAt;rw[List.take_zero,rB,kf (by simp[Fw])];simp
 rw[s]
theorem Vr (a b:ak) (d:(ah a:Int)<=1000000) (g:(ah b:Int)<=1000000):PC BI [iL a,iL b,.bN (.func f [])]=aa (.bool (decide (a=b))):=by
 refine cB (alb rfl ?_);have e:=hF.run a b d g;simp[e];exact⟨hF.ok.eq a b,λh=>by subst h;exact hF.ok.refl a⟩
theorem anI (vs:al) (G:vs ≠ []) (O:(ah vs:Int)<=1000000) (s:qR vs) :
  LX L Ey [.sl 0 (ah vs) 0 (ah vs),.func BI [.bN (.func f [])]] [Lb vs] (λv τ=>v = .sl 0 (ah vs) 0 (ah (gL vs))/\τ=[LB (gL vs) (ah vs-ah (gL vs))]):=by
 have E:0<ah vs:=nc.2 G;refine Tb rfl ?_
 by_cases P:ah vs<2
 .simp[show(ah vs:Int)<2 by omega]
  have u:ah vs=1:=ax
  rw[Vl (by rw[u];exact Vm E)];simp
 .simp[show ¬(ah vs:Int)<2 by omega]
  refine bB (λk:Int=>[(2,.int k)]) (λ_=>[Lb vs]) (λk=>1<=k/\k<=ah vs/\hZ vs (aj k)=vs.take (aj k)) (λk=>aj (ah vs-k)) 1 rfl ⟨ax,ax,?_⟩ λk ⟨H,Q,l⟩=>?_
  .exact Vm E
  by_cases w:k<ah vs
  .have e:=Vr hF (ix vs k) (ix vs (k-1)) (s _ (bh ax w)) (s _ (bh ax ax))
   simp[-aK,w,show 0<=k by omega,show 0<=k-1 by omega,show k-1<(ah vs:Int)by omega,e]
   refine⟨ax,ax,ax,λx=>⟨ax,?_⟩,λx=>⟨ax,a8 (k+1) rfl rfl ⟨ax,ax,by rw[Vo ax x,l,anC ax w]⟩ ax⟩⟩
   obtain⟨k,rfl⟩:∃I : Nat,k=I :=⟨aj k,ax⟩
   have J:k<ah vs:=ax
   rw[jT]at l ⊢;have g:=Vn (vs:=vs) H x;rw[show(aj ((k:Int)+1))=k+1 by omega,jT,l]at g
   refine bB (λp:Nat×Nat×al=>[(2,.int p.1),(3,.int ((p.2.1:Int)+1))]) (λp=>[Lb p.2.2]) (λp=>k+p.2.1+1<=ah vs/\ah p.2.2=ah vs/\p.1=ah (hZ vs (k+p.2.1+1))/\p.1<=k+p.2.1/\p.2.2.take p.1=hZ vs (k+p.2.1+1)/\∀j:Nat,k+p.2.1<=j->j<ah vs->ix p.2.2 (j:Int)=ix vs (j:Int))
    (λp=>ah vs-p.2.1) (k,0,vs) bS ⟨aR,rfl,by dsimp only;rw[Nat.add_zero,g];simp;omega,aR,by dsimp only;rw[Nat.add_zero,g],λ_ _ _=>rfl⟩ ?_
   rintro⟨q,j,cs⟩ ⟨K,d,m,M,n,o⟩;dsimp only at K d m M n o ⊢
   by_cases N:k+j+1<ah vs
   .have u:=o (k+j+1) ax N
    have F:=o (k+j) ax ax
    have e:=Vr hF (ix vs ((k+j+1:Nat):Int)) (ix vs ((k+j:Nat):Int)) (s _ (bh ax ax)) (s _ (bh ax ax))
    rw[<-u,<-F,show((k+j+1:Nat):Int)=(k:Int)+((j:Int)+1)by omega,show((k+j:Nat):Int)=(k:Int)+j by omega]at e
    simp[-aK,d,show(j:Int)+1<((ah vs-k:Nat):Int)by omega,e]
    have y:ix vs ((k+j+1:Nat):Int)=ix vs ((k+j:Nat):Int)->hZ vs (k+(j+1)+1)=hZ vs (k+j+1):=λh=>by
     have:=Vn (vs:=vs) (k:=((k+j+1:Nat):Int)) ax sY
     rw[show(aj (((k+j+1:Nat):Int)+1))=k+(j+1)+1 by omega,show(aj (((k+j+1:Nat):Int)))=k+j+1 by omega]at this
     exact this
    have z:¬ix vs ((k+j+1:Nat):Int)=ix vs ((k+j:Nat):Int)->hZ vs (k+(j+1)+1)=hZ vs (k+j+1) ++ [ix vs ((k+j+1:Nat):Int)]:=λh=>by
     have:=Vo (vs:=vs) (k:=((k+j+1:Nat):Int)) ax sY
     rw[show(aj (((k+j+1:Nat):Int)+1))=k+(j+1)+1 by omega,show(aj (((k+j+1:Nat):Int)))=k+j+1 by omega]at this
     exact this
    rw[<-u,<-F,show((k+j+1:Nat):Int)=(k:Int)+((j:Int)+1)by omega,show((k+j:Nat):Int)=(k:Int)+j by omega]at y z
    refine⟨ax,ax,ax,ax,ax,λh=>⟨ax,a8 (q,j+1,cs) aA rfl ⟨aR,d,by dsimp only;rw[y h];exact m,aR,by dsimp only;rw[y h];exact n,λi a b=>o i (by dsimp only at a;omega) b⟩ aR⟩,λh=>⟨ax,ax,ax,ax,ax,a8 (q+1,j+1,cs.set q (ix cs ((k:Int)+((j:Int)+1)))) aA oJ ⟨aR,iU,by dsimp only;rw[z h];simp;exact m,aR,?_,λi a b=>?_⟩ aR⟩⟩
    .dsimp only
     rw[z h,<-n,pE,List.take_set_of_le (bG _),List.getElem?_set_self ax]
     rfl
    .dsimp only at a ⊢
     rw[B8 ax ax,aC ax]
     exact o i ax b
   .simp[-aK,show ¬(j:Int)+1<((ah vs-k:Nat):Int)by omega]
    have A:q<=ah vs:=ax
    have C:k+j+1=ah vs:=ax
    rw[C]at m n;refine⟨d,A,?_⟩;rw[anB (B:=Lb cs) rfl (by simp[upto,aQ,d]) ⟨ax,by simp[d];omega,rfl,rfl,rfl⟩]
    have r:putAt (cs.map iL) q (fx (ah vs-q) [.aJ])=(gL vs).map iL++ag (ah vs-q) .aJ:=by
     unfold putAt;rw[<-List.map_take,n,kf (by simp[fx,d];omega)]
     simp[fx,gL]
    have D:ah (gL vs)=q:=by unfold gL;exact m.symm
    simp[r,D];omega
  .simp[w]
   rw[show (aj k)=ah vs by omega]at l
   rw[Vl l];simp
theorem anJ:L Ey [.aX ae [],.func BI [.bN (.func f [])]] []=aa (.aX ae [],[]):=by
 refine pa (Tb rfl ?_);simp
theorem anK (ws:al) (y:(ah ws:Int)<=1000000) (o:qR ws):PC Jk [bU ws,.func f []]=aa (bU (mK K ws)):=by
 refine cB (ak9 rfl ?_)
 by_cases l:ws=[]
 .subst l
  have p:L BG [.aX ae []] []=aa (.aX ae [],[]):=S9 (N:=0) rfl;have q:L BH [.aX ae [],.func f []] []=aa (.bY [],[]):=Ta (N:=0) rfl;have m:=anJ hF;simp[p,q,m,iz];refine bB (λ_:Unit=>[]) (λ_=>[]) (λ_=>True) (λ_=>0) () rfl trivial λ_ _=>?_;simp[mK,gj,gL,hZ]
 .have A:gj K ws ≠ []:=λe=>l (eK (by rw[<-Fw (K:=K),e];rfl))
  have hlen:=Fw (K:=K) ws;have p:=anE ws l y;have q:=anH hF ws l y o;obtain⟨_,_,m,rfl,rfl⟩:=dt (anI hF (gj K ws) A ax (anD o))
  rw[hlen]at m;have s:lR 0 (ws.map iL)=ws.map iL:=by
   have:∀k:al,lR 0 (k.map iL)=k.map iL:=λk=>by
    induction k with
    |nil=>rfl
    |cons a r B=>simp only[da,lR,iz,B]
   exact this ws
  simp[p,q,m,iz,gl,s];have z:=Vj (gj K ws);rw[hlen]at z;have d:qR (gL (gj K ws)):=λw h=>o w (Vi.1 h);show W L SU.loop _ _;have C:mK K ws=gL (gj K ws):=rfl;rw[C];generalize gL (gj K ws)=cs at *;have D:=Vq (σ:=[LB cs (ah ws-ah cs)]) (fr:=ae) (b:=0) (u:=ah ws) (xs:=cs) (r:=ah ws-ah cs) (st:=.live) rfl aA ax
  refine bB (λi:Int=>[(4,.int i)]) (λ_=>[LB cs (ah ws-ah cs)]) (λi=>0<=i/\i<=ah cs) (λi=>aj (ah cs-i)) 0 rfl ax λi ⟨n,i1⟩=>?_
  by_cases g:i<ah cs
  .have E:=L4 (ix cs i) (d _ (bh n g))
   have x:=anF (xs:=cs) (r:=ah ws-ah cs) n g;have j:=anG (xs:=cs) (r:=ah ws-ah cs) n g;simp[-aK,-List.map_append,g,n,z,x,E,-El,↓amX,j];exact⟨ax,ax,a8 (i+1) aA rfl ax ax⟩
  .simp[g,D]
end
def Vs (ws:al) (a:(ah ws:Int)<=1000000) (b:qR ws):PC Et [bU ws]=aa (bU (fP ws)):=by
 refine cB (ak1 rfl ?_);simp[anK anA ws a b]
structure Dq (n:aS) (plc:ak):Prop where
 len:ah plc=ah n.az
 Fl : ∀i:Nat,i<ah n.bQ->ix plc (ix n.bQ (i:Int))=i
variable{n:aS}
def wY(a:n.Ok):n.u7 n.bQ:=λs g=>by
 rcases tC.1 g with rfl|⟨r,h,i⟩
 .exact a.aF
 .obtain⟨j,b,e⟩:=fY.1 h
  obtain⟨c,l,m⟩:=fY.1 i;have p:=a.lens;have o:=(a.row j ax ax).1
  have d:=a.call j c ax ax ax (by rw[bt b,e]at o;omega)
  rw[bt b,e,bt l,m]at d;exact d
def Fx:n.bQ.Nodup:=List.Pairwise.imp (λh=>ax) am9
def L5(a:n.Ok):1<=ah n.bQ/\ah n.bQ<=128:=by
 have b:=wY a;have e:=tB (ah n.az) Fx b;have d:n.aF∈n.bQ:=tC.2 (.inl rfl);have g:=List.length_pos_of_mem d;have h:=a.eC;omega
def G3 (n:aS) (plc:ak):aq:=[Zb plc,⟨aa 0,[],.map [(.str (fO n.bQ),.int 0)]⟩,⟨aa 16,[.int n.ay,.int n.aG,.int n.aM,.int n.aL,.int n.aF,bL n.az,bU n.call,bU n.push,bU n.aH,dw n.aP,iL n.bQ,.sl 0 (ah plc) 0 (ah plc),.sl 3 1 0 1,.cZ 1,.aJ,.aJ],.live⟩,⟨ab,[iL n.bQ],.live⟩]
def anL (n:aS) (a:n.Ok) (plc:ak):L zj [.ptr 2 16 0,iL n.bQ] [Zb plc,⟨aa 0,[],.map []⟩,⟨aa 16,[.int n.ay,.int n.aG,.int n.aM,.int n.aL,.int n.aF,bL n.az,bU n.call,bU n.push,bU n.aH,dw n.aP,iL n.bQ,.sl 0 (ah plc) 0 (ah plc),.aJ,.cZ 1,.aJ,.aJ],.live⟩]=aa (.int 0,G3 n plc):=by
 refine pa (S5 rfl ?_);have e:=L5 a;have d:=Cb n.bQ (Cg a (wY a)) ax
 have b:∀x,bP 1 (.str x)=ad:=λ_=>rfl;simp[-aK,d,dg,b]
 rfl
def anM (n:aS) (b:n.Ok):LX L KJ [n.av] [] (λr τ=>∃plc,Dq n plc/\r = .ptr 2 16 0/\τ=G3 n plc):=by
 refine ajR rfl ?_;have x:=ana n b;have E:=L5 b;have s:=wY b;have y:=b.eC;have d:=L4 n.bQ ax
 have a:=anL n b;simp[-aK,-List.map_replicate,x];refine⟨ax,rfl,?_⟩
 refine bB (λq:Nat×ak=>[(3,.int q.1)]) (λq=>[Zb q.2,⟨aa 0,[],.map []⟩,⟨aa 16,[.int n.ay,.int n.aG,.int n.aM,.int n.aL,.int n.aF,bL n.az,bU n.call,bU n.push,bU n.aH,dw n.aP,iL n.bQ,.sl 0 (ah n.az) 0 (ah n.az),.aJ,.cZ 1,.aJ,.aJ],.live⟩])
  (λq=>q.1<=ah n.bQ/\ah q.2=ah n.az/\∀j:Nat,j<q.1->ix q.2 (ix n.bQ (j:Int))=j) (λq=>ah n.bQ-q.1) (0,ag (ah n.az) 0) (by simp[fj,AV.cells]) ⟨aA,aA,λj h=>by dsimp only at h;omega⟩ ?_
 rintro⟨k,pl⟩ ⟨z,g,i⟩;dsimp only at z g i ⊢
 by_cases A:k<ah n.bQ
 .have u:=s _ (bh (l:=n.bQ) (n:=(k:Int)) ax ax)
  have m:=bz (show ix n.bQ (k:Int)<(ah pl:Int)by omega)
  have o:=bz (show ix n.bQ (k:Int)<(ah n.az:Int)by omega)
  simp[-aK,A,u.1,m,o,g];refine⟨ax,a8 (k+1,pl.set (aj (ix n.bQ (k:Int))) k) aA oJ ⟨aR,jC,λj B=>?_⟩ aR⟩
  dsimp only at B ⊢;have p:=s _ (bh (l:=n.bQ) (n:=(j:Int)) ax ax)
  rw[B8 p.1 ax]
  by_cases e:j=k
  .subst e;rw[aD ax]
  .rw[aC,i j ax]
   intro h;rw[bt ax,bt ax]at h
   have C : n.bQ[j]=n.bQ[k]:=by
    have:=u.1;rw[bt ax]at this
    omega
   exact e ((List.getElem_inj Fx).1 C)
 .have D:k=ah n.bQ:=by omega
  subst D;have w : PC pL [.aX ae (n.bQ.map .int)]=aa (iL n.bQ):=d;have a:=a pl;rw[g]at a;simp[-aK,d,a];exact⟨pl,⟨g,i⟩,rfl⟩
def p9 (n:aS) (plc:ak):Vd:=⟨n,plc,[n.bQ],[],[]⟩
def anN(a:n.Ok){plc:ak}(b:Dq n plc):vg (p9 n plc):=by
 have l:=L5 a;refine⟨a,λk m=>?_,l.2,λs c d g o p=>?_⟩
 .have:k=n.bQ:=by simpa[p9]using m
  subst this;exact⟨wY a,rfl⟩
 .have h:ix (ix n.call s) c∈n.bQ:=by
   have q:=(a.row s d g).1;have u:=a.lens;exact tC.2 (.inr ⟨_,bh d (show s<(ah n.call:Int)by have:s<(ah n.az:Int):=g;omega),bh o (by have:c<n.ay:=p;omega)⟩)
  have w:=wY a _ h;obtain⟨i,j,e⟩:=fY.1 h;have:=b.Fl i j;rw[bt j,e]at this;have r:=b.len;show ix (ix n.call s) c<(ah plc:Int)/\0<=ix plc (ix (ix n.call s) c)/\ix plc (ix (ix n.call s) c)<(ah n.bQ:Int);rw[this];omega
def p0:Tg->Nat
 |.pl=>1
 |.mp=>2
 |.v=>3
 |.ls=>4
 |.bp=>0
 |.bl=>0
 |.rw _=>0
 |.cl _ _=>0
 |.old i=>i
def vs0 (n:aS) (plc:ak) (A:aO):VS (p9 n plc) (λi=>if i=0 then aa A else ab) p0 (A::(G3 n plc).map (gl 1)):=by
 have g:∀l:ak,lR 1 (l.map .int)=l.map .int:=B9;refine⟨λt B a=>?_,λt u X Y b d e=>?_,λi=>rfl⟩
 .cases t with
  |v=>
   have:B=(p9 n plc).box p0:=by simpa[Vd.cont]using a.symm
   subst this;simp[G3,p0,aQ,gl,lR,iz,Vd.box,p9,dh]
  |pl=>
   have:B=Zb plc:=by simpa[Vd.cont,p9]using a.symm
   subst this;simp[G3,p0,aQ,gl,g]
  |mp=>
   have:B=⟨aa 0,[],.map (sx 0 [n.bQ])⟩:=by simpa[Vd.cont,p9]using a.symm
   subst this;simp[G3,p0,aQ,gl,sx,pZ,HK,lR,iz]
  |ls=>
   have:B=⟨ab,[iL n.bQ],.live⟩:=by simpa[Vd.cont,p9]using a.symm
   subst this;simp[G3,p0,aQ,gl,lR,iz]
  |bp=>simp[Vd.cont,p9]at a
  |bl=>simp[Vd.cont,p9]at a
  |rw x=>simp[Vd.cont,p9]at a
  |cl x c=>simp[Vd.cont,p9]at a
  |old i=>
   have a:(if i=0 then aa A else ab)=aa B:=a
   split at a
   .rename_i h;subst h;exact a
   .simp at a
 .have nz:∀i,(p9 n plc).cont (λi=>if i=0 then aa A else ab) p0 (.old i)=ab\/i=0:=λi=>by
   by_cases h:i=0
   .exact .inr h
   .left;simp[Vd.cont,h]
  cases t<;>cases u<;>first
   |rfl
   |(simp[Vd.cont,p9]at b;done)
   |(simp[Vd.cont,p9]at d;done)
   |(simp[p0]at e;done)
   |(simp[p0]at e;subst e;rfl)
   |(rename_i i;rcases nz i with h|h
     .first|(rw[h]at b;simp at b;done)|(rw[h]at d;simp at d;done)
     .subst h;simp[p0]at e)
def Dr (k:Int):ak:=[k%256,(k/256)%256]
def dT (l:ak):ak:=l.flatMap Dr
abbrev bK (a:ak):ao:=a.map (AV.ik 4)
variable{l:ak}
def anO{a:Int}:dT (l ++ [a])=dT l ++ [a%256,(a/256)%256]:=by simp[dT,Dr]
variable{m:ak}
def Vt:dT (l++m)=dT l++dT m:=by simp[dT]
def Fy:∀l:ak,ah (dT l)=2*ah l
 | []=>rfl
 |a::l=>by
  have:=Fy l;simp only[dT,Dr,jD,bM,cT,eX]at this ⊢;omega
abbrev Fz (a:ak):aq:=[⟨ab,bK a,.live⟩,⟨ab,[.sl 0 (ah a) 0 (ah a)],.live⟩]
def Cn (cls l a:ak) (i:∀y∈l,0<=y/\y<(ah cls:Int)) (o:a ≠ []) (hlen:ah a+2*ah l<=100000000) :
  L Er [iL l,.ptr 1 1 0,.bN (iL cls)] (Fz a)=aa (.bY [],Fz (a++dT (l.map (ix cls)))):=by
 refine pa (akZ rfl ?_);simp[-aK,-List.map_append];refine bB (λk:Nat=>[(3,.int k)]) (λk=>Fz (a++dT ((l.take k).map (ix cls)))) (λk=>k<=ah l) (λk=>ah l-k) 0 (by simp[fj,dT]) ax ?_
 intro k p
 by_cases g:k<ah l
 .have h:=i _ (bh (l:=l) (n:=(k:Int)) ax ax)
  have tk:=lZ g;have d:=Fy ((l.take k).map (ix cls));have b:min k (ah l)=k:=ta ax
  simp only[db,pA,b]at d;have j:dT ((l.take (k+1)).map (ix cls))=dT ((l.take k).map (ix cls)) ++ [ix cls (ix l (k:Int))%256,(ix cls (ix l (k:Int))/256)%256]:=by rw[tk,kk,da,List.map_nil,anO]
  have e:(ix cls (ix l (k:Int))).fdiv 256=ix cls (ix l (k:Int))/256:=Int.fdiv_eq_ediv_of_nonneg _ ax
  generalize dT ((l.take k).map (ix cls))=B at *;simp[-aK,-List.map_append,g,h.1,h.2];refine⟨ax,ax,a8 (k+1) aA ?_ ax ax⟩
  rw[<-List.map_take,j,e];simp[Nat.add_assoc]
 .have m:k=ah l:=by omega
  subst m;simp[-aK,-List.map_append]
structure kQ (D:Vd):Prop where
 f:Full D
 k:0<ah D.K
 c:0<=D.n.ay/\D.n.ay<=64
 n:0<=D.n.aG/\D.n.aG<=64
 r:0<=D.n.aM/\D.n.aM<=64
 rl:∀x:Nat,x<ah D.K->ah (D.row x)=aj D.n.ay
 inl:∀x:Nat,x<ah D.K->ah (ix D.IN (x:Int))=aj D.n.aG/\∀y∈ix D.IN (x:Int),0<=y/\y<(ah D.K:Int)
 tF:∀x c y:Nat,x<ah D.K->c<aj D.n.ay->y<ah D.K->ah (ix (D.cv x c) (y:Int))=aj D.n.aM/\∀z∈ix (D.cv x c) (y:Int),0<=z/\z<(ah D.K:Int)
def Vd.zA (D:Vd) (cls:ak) (x c y:Nat):ak:=(ix (D.cv x c) (y:Int)).map (ix cls)++(ix (D.cv y c) (x:Int)).map (ix cls)
def Vd.oS (D:Vd) (cls:ak) (x c k:Nat):ak:=(af k).flatMap λy=>D.zA cls x c y
def Vd.kR (D:Vd) (cls:ak) (x j:Nat):ak:=ix cls (x:Int)::(ix D.IN (x:Int)).map (ix cls)++(af j).flatMap λc=>D.oS cls x c (ah D.K)
variable{D:Vd}{cls:ak}{x k:Nat}
def Vu{c:Nat}:D.oS cls x c (k+1)=D.oS cls x c k++((ix (D.cv x c) (k:Int)).map (ix cls)++(ix (D.cv k c) (x:Int)).map (ix cls)):=by
 simp[Vd.oS,Vd.zA,kL]
def Vv{j:Nat}:D.kR cls x (j+1)=D.kR cls x j++D.oS cls x j (ah D.K):=by
 simp[Vd.kR,kL]
def L6{D:Vd}(h:kQ D){cls:ak}{x c:Nat}(a:x<ah D.K) (b:c<aj D.n.ay):∀{k:Nat},k<=ah D.K->ah (D.oS cls x c k)<=k*128
 |0,_=>by simp[Vd.oS]
 |k+1,d=>by
  have:=L6 h a b (cls:=cls) (k:=k) ax
  rw[Vu];have e:=(h.tF x c k a b ax).1
  have g:=(h.tF k c x ax b a).1
  have i:=h.r;simp only[bM,db];omega
def Vw{D:Vd}(h:kQ D){cls:ak}{x:Nat}(a:x<ah D.K):∀{j:Nat},j<=aj D.n.ay->ah (D.kR cls x j)<=65+j*65536
 |0,_=>by have:=(h.inl x a).1;have:=h.n;simp[Vd.kR];omega
 |j+1,b=>by
  have:=Vw h a (cls:=cls) (j:=j) ax
  rw[Vv,bM];have d:=L6 h (cls:=cls) a (c:=j) ax (bG (ah D.K))
  have:=h.f.k;omega
def anP (D:Vd) (h:kQ D) (cls:ak) (d:ah cls=ah D.K) (x:Nat) (l:x<ah D.K):PC EO [D.vcs.av,iL cls,.int x]=aa (.aX ae (bK (dT (D.kR cls x (aj D.n.ay))))):=by
 refine cB (akM rfl ?_);have q:=h.f;have Y:=q.k;have Z:=q.i;have hfb:=q.b;have A:=h.inl x l;have pD:=h.c;have GH:=h.n;have Vx:=h.r;have C:=bz (show(x:Int)<(ah cls:Int)by omega)
 have E:=bz (show(x:Int)<(ah D.IN:Int)by omega)
 have s:=bz (show(x:Int)<(ah D.BL:Int)by omega)
 have F:=Cn cls (ix D.IN (x:Int)) [ix cls (x:Int)%256,ix cls (x:Int)/256%256] (λy m=>by rw[d];exact A.2 y m) aA aT
 have G:(ix cls (x:Int)).fdiv 256=ix cls (x:Int)/256:=Int.fdiv_eq_ediv_of_nonneg _ ax
 have u : L Er [.aX ae ((ix D.IN (x:Int)).map .int),.ptr 1 (ba ab) 0,.bN (.aX ae (cls.map .int))] [⟨ab,ts [.ik 4 (ix cls (x:Int)%256),.ik 4 (ix cls (x:Int)/256%256)],.live⟩,⟨ab,[.sl 0 2 0 2],.live⟩]=aa (.bY [],Fz (dT (D.kR cls x 0))):=by
  have e:dT (D.kR cls x 0)=[ix cls (x:Int)%256,ix cls (x:Int)/256%256]++dT ((ix D.IN (x:Int)).map (ix cls)):=by simp[Vd.kR,dT,Dr]
  rw[e];exact F
 simp[-aK,-List.map_append,C,E,s,G,u];refine bB (λc:Nat=>[(6,.int c)]) (λc=>Fz (dT (D.kR cls x c))) (λc=>c<=aj D.n.ay) (λc=>aj D.n.ay-c) 0 bS ax ?_
 intro c c0;have lB:=Vw h (cls:=cls) l c0
 by_cases w:c<aj D.n.ay
 .have o:=bz (show(c:Int)<D.n.ay by omega)
  simp[-aK,-List.map_append,o];have ez:Fz (dT (D.kR cls x c))=Fz (dT (D.kR cls x c++D.oS cls x c 0)):=by simp[Vd.oS]
  refine bB (λy:Nat=>[(8,.int y)]) (λy=>Fz (dT (D.kR cls x c++D.oS cls x c y))) (λy=>y<=ah D.K) (λy=>ah D.K-y) 0 (by rw[<-ez];simp[fj]) ax ?_
  intro y y0;have X:=L6 h (cls:=cls) l w y0
  by_cases m:y<ah D.K
  .have e0:=Vu (D:=D) (cls:=cls) (x:=x) (c:=c) (k:=y)
   have H:=h.tF x c y l w m;have I:=h.tF y c x m w l;have J:dT (D.kR cls x c++D.oS cls x c y) ≠ []:=by simp[Vd.kR,dT,Dr]
   have N:=Fy (D.kR cls x c++D.oS cls x c y);rw[bM]at N;have p:=Cn cls (ix (D.cv x c) (y:Int)) (dT (D.kR cls x c++D.oS cls x c y)) (λz O=>by rw[d];exact H.2 z O) J ax
   rw[<-Vt]at p;have P:=Fy (D.kR cls x c++D.oS cls x c y++(ix (D.cv x c) (y:Int)).map (ix cls));rw[bM,bM,db]at P;have a:=Cn cls (ix (D.cv y c) (x:Int)) (dT (D.kR cls x c++D.oS cls x c y++(ix (D.cv x c) (y:Int)).map (ix cls))) (λz O=>by rw[d];exact I.2 z O) (by simp[Vd.kR,dT,Dr]) ax
   rw[<-Vt]at a;have e1:D.kR cls x c++D.oS cls x c y++(ix (D.cv x c) (y:Int)).map (ix cls)++(ix (D.cv y c) (x:Int)).map (ix cls)=D.kR cls x c++D.oS cls x c (y+1):=by rw[e0];simp
   rw[e1]at a;have Q:=bz (show(y:Int)<(ah D.BL:Int)by omega)
   have R:=bz (show(y:Int)<(ah D.K:Int)by omega)
   have S:=bz (show(c:Int)<(ah (ix D.BL (x:Int)):Int)by have:=h.rl x l;unfold Vd.row at this;omega)
   have T:=bz (show(c:Int)<(ah (ix D.BL (y:Int)):Int)by have:=h.rl y m;unfold Vd.row at this;omega)
   have U:=bz (show(y:Int)<(ah (ix (ix D.BL (x:Int)) (c:Int)):Int)by have:=q.c x c l w;unfold Vd.cv Vd.row at this;omega)
   have V:=bz (show(x:Int)<(ah (ix (ix D.BL (y:Int)) (c:Int)):Int)by have:=q.c y c m w;unfold Vd.cv Vd.row at this;omega)
   generalize dT (D.kR cls x c++D.oS cls x c y++(ix (D.cv x c) (y:Int)).map (ix cls))=M at *;unfold Vd.cv Vd.row at p a;generalize dT (D.kR cls x c++D.oS cls x c y)=B at *;simp[-aK,-List.map_append,R,Q,s,S,T,U,V,p,a];exact⟨ax,a8 (y+1) aA rfl ax ax⟩
  .have ey:y=ah D.K:=by omega
   subst ey;have e3:=Vv (D:=D) (cls:=cls) (x:=x) (j:=c);simp[-aK,-List.map_append,m];exact⟨ax,a8 (c+1) aA (by rw[e3]) ax ax⟩
 .have ec:c=aj D.n.ay:=by omega
  have o:=eG (show ¬(c:Int)<D.n.ay by omega)
  simp[-aK,-List.map_append,o];have W:view (Fz (dT (D.kR cls x c))) ae vd (.sl 0 (ah (dT (D.kR cls x c))) 0 (ah (dT (D.kR cls x c))))=aa (.aX ae (bK (dT (D.kR cls x c)))):=gY (k:=11) (f:=AV.ik 4) (g:=AV.ik 4) (st:=.live) rfl rfl rfl λ_ _=>rfl;rw[W,ec]
  rfl
def Vd.Ds (D:Vd) (cls:ak) (x:Nat):ak:=dT (D.kR cls x (aj D.n.ay))
def Vd.j9 (D:Vd) (cls:ak):al:=(af (ah D.K)).map (D.Ds cls)
def FA:∀{l:ak},eD (dT l)
 | [],x,b=>by simp[dT]at b
 |a::l,x,b=>by
  simp only[dT,Dr,jD,dI,cC,List.not_mem_nil,or_false]at b;rcases b with(rfl|rfl)|b
  .omega
  .omega
  .exact FA (l:=l) x b
def Co:∀w:ak,fitAll (ba ab) (bK w)=ad
 | []=>rfl
 |a::w=>by
  have:=Co w;simp only[bK,da,fitAll]at this ⊢;rw[this];rfl
def L7:∀w:ak,(bK w).flatMap AV.cells=bK w
 | []=>rfl
 |a::w=>by
  have:=L7 w;simp only[bK,da,jD]at this ⊢;rw[this];rfl
def FB:∀(i:Nat) (K:al),ah (sx i K)=ah K
 |_,[]=>rfl
 |i,k::K=>by simp only[sx,cT,FB (i+1) K]
variable{α:Type}
def L8{A:List α}{z v:α}(h:ah A=x):(A++ag (k+1) z).set x v=A ++ [v]++ag k z:=by
 subst h;rw[qu,aC ax,pG]
 simp[sJ]
def anQ (D:Vd) (h:kQ D) (cls:ak) (o:ah cls=ah D.K):PC KT [D.vcs.av,iL cls]=aa (.bY [iL (idxs (bj [] (D.j9 cls)) (D.j9 cls)),.int (ah (bj [] (D.j9 cls)))]):=by
 refine cB (akl rfl ?_);have A:=h.f.k;have B:ah (D.j9 cls)=ah D.K:=by simp[Vd.j9]
 have g:∀x,bP 1 (.str x)=ad:=λ_=>rfl;simp[-aK,-List.map_replicate];refine⟨ax,?_⟩
 refine bB (λx:Nat=>[(2,.int x)]) (λx=>[⟨aa 0,[],.map (sx 0 (bj [] ((D.j9 cls).take x)))⟩,Zb (idxs (bj [] ((D.j9 cls).take x)) ((D.j9 cls).take x)++ag (ah cls-x) 0)]) (λx=>x<=ah cls) (λx=>ah cls-x) 0 (by simp[fj,bj,idxs,sx]) ax ?_
 intro x G
 by_cases H:x<ah cls
 .have u:=anP D h cls o x ax
  have tk:=lZ (w:=D.j9 cls) (k:=x) ax
  have C:ix (D.j9 cls) (x:Int)=D.Ds cls x:=by
   unfold Vd.j9;rw[kv ax aT,bt (show x<ah (af (ah D.K)) by simp;omega)]
   simp
  have z:=E4 (l:=D.Ds cls x) FA;have E:∀k∈bj [] ((D.j9 cls).take x),eD k:=Fo aA λv F=>by
   obtain⟨y,_,rfl⟩:=cJ.1 (List.mem_of_mem_take F);exact FA
  have d:=zt (l:=D.Ds cls x) FA 0 _ E;have a:=Fp (K:=[]) (vs:=(D.j9 cls).take x) (l:=D.Ds cls x);have b:=Ce (K:=[]) (vs:=(D.j9 cls).take x) (l:=D.Ds cls x);rw[C]at tk;have i:ah (idxs (bj [] ((D.j9 cls).take x)) ((D.j9 cls).take x))=x:=oL
  have j : PC EO [D.vcs.av,iL cls,.int x]=aa (.aX ae (bK (D.Ds cls x))):=u;clear u;generalize D.Ds cls x=w at *;generalize I:(D.j9 cls).take x=V at *;have m:=bz (show(x:Int)<(ah cls:Int)by omega)
  by_cases n:w∈bj [] V
  .rw[aD n]at d
   have e:jr (bj [] V) w=bj [] V:=aD n;rw[e]at b;generalize p:bj [] V=q at *;simp[-aK,-List.map_append,-List.map_replicate,m,j, Co,L7,z,d,g,FB];refine⟨Co w,ax,ax,ax,a8 (x+1) aA ?_ ax ax⟩
   rw[b]at a;rw[<-List.map_set,tk,b,a,show (ah cls)-x=(ah cls-(x+1))+1 by omega,L8 (by simpa using i)]
  .rw[aC n]at d
   have e:jr (bj [] V) w=bj [] V ++ [w]:=aC n;rw[e]at b;generalize p:bj [] V=q at *;simp[-aK,-List.map_append,-List.map_replicate,m,j, Co,L7,z,d,g,FB];have r:q.idxOf w=ah q:=List.idxOf_eq_length n;refine⟨Co w,ax,ax,ax,a8 (x+1) aA ?_ ax ax⟩
   rw[b]at a;rw[<-List.map_set,tk,b,a,show (ah cls)-x=(ah cls-(x+1))+1 by omega,L8 (by simpa using i),Fm,r]
   simp
 .have ex:x=ah cls:=by omega
  subst ex;rw[gN ax]
  have s:view [⟨aa 0,[],.map (sx 0 (bj [] (D.j9 cls)))⟩,Zb (idxs (bj [] (D.j9 cls)) (D.j9 cls))] ae vd (.sl 1 (ah cls) 0 (ah cls))=aa (iL (idxs (bj [] (D.j9 cls)) (D.j9 cls))):=sw (st:=.live) rfl rfl oL
  simp[-aK,-List.map_append,-List.map_replicate,s,FB]
def Vd.ac (D:Vd) (st x:Int):Bool:=ix D.n.az (ix (ix D.K x) st)
def Vd.im (D:Vd) (x i:Int):Int:=ix (ix D.IN x) i
def Vd.bk (D:Vd) (x c y r:Int):Int:=ix (ix (ix (ix D.BL x) c) y) r
inductive zB (D:Vd) (st:Int):Int->Int->Prop
 |acc (x y:Int):D.ac st x ≠ D.ac st y->zB D st x y
 |bp (x y i:Int):0<=i->i<D.n.aG->zB D st (D.im x i) (D.im y i)->zB D st x y
 |bl (x y c z r:Int):0<=c->c<D.n.ay->0<=z->z<(ah D.K:Int)->0<=r->r<D.n.aM->zB D st (D.bk x c z r) (D.bk y c z r)->zB D st x y
 |br (x y c z r:Int):0<=c->c<D.n.ay->0<=z->z<(ah D.K:Int)->0<=r->r<D.n.aM->zB D st (D.bk z c x r) (D.bk z c y r)->zB D st x y
def Vy:∀{l m:ak},(∀x∈l,0<=x/\x<=65535)->(∀x∈m,0<=x/\x<=65535)->dT l=dT m->l=m
 | [],[],_,_,_=>rfl
 | [],b::m,_,_,h=>by simp[dT,Dr]at h
 |a::l,[],_,_,h=>by simp[dT,Dr]at h
 |a::l,b::m,e,g,h=>by
  simp only[dT,Dr,jD,kK,rB,List.cons.injEq]at h;have i:=e a aA
  have j:=g b aA
  rw[Vy (λx d=>e x iU) (λx d=>g x iU) h.2.2,show a=b by omega]
def Cq{α b:Type}{f g:α->List b}:∀{l:List α},(∀i∈l,ah (f i)=ah (g i))->(l.flatMap f=l.flatMap g↔∀i∈l,f i=g i)
 | [],_=>by simp
 |a::l,h=>by
  have d:=Cq (l:=l) λi j=>h i (by simp[j])
  simp only[jD,cC,forall_eq_or_imp,<-d];exact⟨λe=>List.append_inj e (h a aA),λe=>by rw[e.1,e.2]⟩
def FC(b:ah l=ah m):l.map (ix cls)=m.map (ix cls)↔∀i:Int,0<=i->i<(ah l:Int)->ix cls (ix l i)=ix cls (ix m i):=by
 constructor
 .intro e i a i1
  have d:=kv (f:=ix cls) (l:=l) a i1;have g:=kv (f:=ix cls) (l:=m) a ax
  rw[<-d,<-g,e]
 .intro h
  refine wQ (by simpa using b) λi a i1=>?_
  simp at i1;rw[kv a i1,kv a ax]
  exact h i a i1
structure FD (D:Vd) (cls:ak) (x y:Int):Prop where
 e:ix cls x=ix cls y
 i:∀i,0<=i->i<D.n.aG->ix cls (D.im x i)=ix cls (D.im y i)
 l:∀c z r,0<=c->c<D.n.ay->0<=z->z<(ah D.K:Int)->0<=r->r<D.n.aM->ix cls (D.bk x c z r)=ix cls (D.bk y c z r)
 r:∀c z r,0<=c->c<D.n.ay->0<=z->z<(ah D.K:Int)->0<=r->r<D.n.aM->ix cls (D.bk z c x r)=ix cls (D.bk z c y r)
variable{y:Nat}
def anR(h:kQ D)(m:x<ah D.K) (o:y<ah D.K):D.kR cls x (aj D.n.ay)=D.kR cls y (aj D.n.ay)↔FD D cls x y:=by
 have E:=(h.inl x m).1;have F:=(h.inl y o).1;have Q:=h.r;have R:=h.n;have p:∀c,c<aj D.n.ay->∀z,z<ah D.K->ah (D.zA cls x c z)=ah (D.zA cls y c z):=λc a z b=>by
  simp only[Vd.zA,bM,db,(h.tF x c z m a b).1,(h.tF y c z o a b).1,(h.tF z c x b a m).1,(h.tF z c y b a o).1]
 have u:∀c,c<aj D.n.ay->ah (D.oS cls x c (ah D.K))=ah (D.oS cls y c (ah D.K)):=λc a=>by
  simp only[Vd.oS,List.length_flatMap]
  congr 1
  exact fm λz b=>p c a z (cE.1 b)
 have G:D.kR cls x (aj D.n.ay)=D.kR cls y (aj D.n.ay)↔ix cls (x:Int)=ix cls (y:Int)/\(ix D.IN (x:Int)).map (ix cls)=(ix D.IN (y:Int)).map (ix cls)/\∀c∈af (aj D.n.ay),D.oS cls x c (ah D.K)=D.oS cls y c (ah D.K):=by
  rw[<-Cq λc a=>u c (cE.1 a)];unfold Vd.kR;simp only[kK,List.cons.injEq];exact⟨λe=>⟨e.1,List.append_inj e.2 aT⟩,λe=>⟨e.1,by rw[e.2.1,e.2.2]⟩⟩
 have B:∀c,c<aj D.n.ay->(D.oS cls x c (ah D.K)=D.oS cls y c (ah D.K)↔∀z∈af (ah D.K),D.zA cls x c z=D.zA cls y c z):=λc a=>Cq λz b=>p c a z (cE.1 b);have C:∀c,c<aj D.n.ay->∀z,z<ah D.K->(D.zA cls x c z=D.zA cls y c z↔(∀r,0<=r->r<D.n.aM->ix cls (D.bk x c z r)=ix cls (D.bk y c z r))/\∀r,0<=r->r<D.n.aM->ix cls (D.bk z c x r)=ix cls (D.bk z c y r)):=λc a z b=>by
  have H:=(h.tF x c z m a b).1;have S:=(h.tF y c z o a b).1;have I:=(h.tF z c x b a m).1;have T:=(h.tF z c y b a o).1;have w:D.zA cls x c z=D.zA cls y c z↔(ix (D.cv x c) (z:Int)).map (ix cls)=(ix (D.cv y c) (z:Int)).map (ix cls)/\(ix (D.cv z c) (x:Int)).map (ix cls)=(ix (D.cv z c) (y:Int)).map (ix cls):=by
   unfold Vd.zA;exact⟨λe=>List.append_inj e aT,λe=>by rw[e.1,e.2]⟩
  rw[w,FC ax,FC ax,H,I,show((aj D.n.aM:Nat):Int)=D.n.aM by omega]
  exact Iff.rfl
 rw[G];constructor
 .rintro⟨w,J,L⟩
  have q:=λc a z b=>(C c a z b).1 ((B c a).1 (L c (cE.2 a)) z (cE.2 b));refine⟨w,λi A i1=>(FC ax).1 J i A ax,λc z r M N O P d j=>?_,λc z r M N O P d j=>?_⟩
  .have:=(q (aj c) ax (aj z) ax).1 r d j
   rwa [show((aj c:Nat):Int)=c by omega,show((aj z:Nat):Int)=z by omega]at this
  .have:=(q (aj c) ax (aj z) ax).2 r d j
   rwa [show((aj c:Nat):Int)=c by omega,show((aj z:Nat):Int)=z by omega]at this
 .intro g
  refine⟨g.e,(FC ax).2 λi A i1=>g.i i A ax,λc a=>?_⟩
  have s :=cE.1 a;refine(B c s).2 λz b=>(C c s z (cE.1 b)).2 ⟨λr d j=>g.l c z r ax ax ax (by have:=cE.1 b;omega) d j,λr d j=>g.r c z r ax ax ax (by have:=cE.1 b;omega) d j⟩
def anS{K:al}{a b:ak}(d:a∈K) (e:b∈K) (h:K.idxOf a=K.idxOf b):a=b:=by
 have g:=List.idxOf_lt_length_of_mem d;have i:=List.idxOf_lt_length_of_mem e;have j:=List.getElem_idxOf g;have l:=List.getElem_idxOf i;rw[<-j,<-l]
 congr 1
variable{vs:al}
def Vz{K:al}(a:x<ah vs):ix (idxs K vs) (x:Int)=((K.idxOf (ix vs (x:Int)):Nat):Int):=by
 unfold idxs;rw[kv ax ax]
def anT(a:x<ah vs) (b:y<ah vs):ix (idxs (bj [] vs) vs) (x:Int)=ix (idxs (bj [] vs) vs) (y:Int)↔ix vs (x:Int)=ix vs (y:Int):=by
 rw[Vz a,Vz b];have d:ix vs (x:Int)∈bj [] vs:=ve (.inl (bh ax ax))
 have g:ix vs (y:Int)∈bj [] vs:=ve (.inl (bh ax ax))
 exact⟨λe=>anS d g ax,λe=>fk⟩
def VA:∀(n:Nat) (vs:al),ah vs=n->Can (idxs (bj [] vs) vs) (ah (bj [] vs))
 |0,vs,h=>by
  have:vs=[]:=eK h;subst this;exact Can.nil
 |n+1,vs,h=>by
  have a:vs ≠ []:=by intro e;subst e;simp at h
  obtain⟨d,v,rfl⟩:∃d v,vs=d ++ [v]:=⟨vs.dropLast,vs.getLast a,(List.dropLast_concat_getLast a).symm⟩;have g:=VA n d du
  rw[Fp,Ce]
  by_cases b:v∈bj [] d
  .rw[show jr (bj [] d) v=bj [] d from aD b]
   exact g.old ax (by have:=List.idxOf_lt_length_of_mem b;omega)
  .rw[show jr (bj [] d) v=bj [] d ++ [v]from aC b,List.idxOf_eq_length b,bM]
   exact g.new
def Can.put{c:ak}{v:Nat}(h:Can c k) (hv:v<=k):Can (c ++ [(v:Int)]) (max k (v+1)):=by
 by_cases e:v<k
 .rw[show max k (v+1)=k by omega]
  exact h.old ax ax
 .have:v=k:=by omega
  subst this;rw[show max v (v+1)=v+1 by omega]
  exact h.new
structure FE (D:Vd) (st:Int) (cls:ak) (k:Nat):Prop where
 can:Can cls k
 len:ah cls=ah D.K
 sep:∀x y:Nat,x<ah D.K->y<ah D.K->ix cls (x:Int) ≠ ix cls (y:Int)->zB D st x y
 ac:∀x y:Nat,x<ah D.K->y<ah D.K->ix cls (x:Int)=ix cls (y:Int)->D.ac st x=D.ac st y
def VB(a:x<ah D.K):ix (D.j9 cls) (x:Int)=D.Ds cls x:=by
 unfold Vd.j9;rw[kv ax aT,bt (show x<ah (af (ah D.K)) by simp;omega)]
 simp
def VC(h:kQ D)(d:Can cls k) (o:ah cls=ah D.K)(e:x<ah D.K):∀v∈D.kR cls x (aj D.n.ay),0<=v/\v<=65535:=by
 have p:=d.len;have q:=h.f.k;have key:∀l:ak,(∀y∈l,0<=y/\y<(ah D.K:Int))->∀v∈l.map (ix cls),0<=v/\v<=65535:=λl g v a=>by
  obtain⟨y,j,rfl⟩:=cJ.1 a;have m:=g y j;have:=d.gi _ (bh (l:=cls) m.1 ax)
  omega
 intro v a;simp only[Vd.kR,Vd.oS,Vd.zA,kK,cC,dI,oF,cE]at a;rcases a with rfl|a|⟨c,b, z,i,a|a⟩
 .have:=d.gi _ (bh (l:=cls) (n:=(x:Int)) ax ax);omega
 .exact key _ (h.inl x e).2 v a
 .exact key _ (h.tF x c z e b i).2 v a
 .exact key _ (h.tF z c x i b e).2 v a
def FF(h:kQ D)(d:Can cls k) (g:ah cls=ah D.K)(a:x<ah D.K) (b:y<ah D.K):ix (idxs (bj [] (D.j9 cls)) (D.j9 cls)) (x:Int)=ix (idxs (bj [] (D.j9 cls)) (D.j9 cls)) (y:Int)↔FD D cls x y:=by
 have i:ah (D.j9 cls)=ah D.K:=by simp[Vd.j9]
 rw[anT ax ax,VB a,VB b,<-anR h a b]
 exact⟨λe=>Vy (VC h d g a) (VC h d g b) e,λe=>by unfold Vd.Ds;rw[e]⟩
variable{st:Int}
def zB.of(h:kQ D)(hc:FE D st cls k)(hx:x<ah D.K) (hy:y<ah D.K) (hn:¬FD D cls x y):zB D st x y:=by
 have key:∀a b:Int,0<=a->a<(ah D.K:Int)->0<=b->b<(ah D.K:Int)->ix cls a ≠ ix cls b->zB D st a b:=λa b a0 a1 b0 b1 BA=>by
  have:=hc.sep (aj a) (aj b) ax ax
  rw[show((aj a:Nat):Int)=a by omega,show((aj b:Nat):Int)=b by omega]at this
  exact this BA
 have ZI:∀x:Nat,x<ah D.K->∀i,0<=i->i<D.n.aG->0<=D.im x i/\D.im x i<(ah D.K:Int):=λx hx i i0 i1=>by
  have:=h.inl x hx;exact this.2 _ (bh i0 ax)
 have yc:∀x z:Nat,x<ah D.K->z<ah D.K->∀c r,0<=c->c<D.n.ay->0<=r->r<D.n.aM->0<=D.bk x c z r/\D.bk x c z r<(ah D.K:Int):=λx z hx hz c r c0 c1 r0 r1=>by
  have:=h.tF x (aj c) z hx ax hz
  unfold Vd.cv Vd.row at this;rw[show((aj c:Nat):Int)=c by omega]at this
  exact this.2 _ (bh r0 ax)
 refine dP λzC=>hn ⟨dP λe=>zC (hc.sep x y hx hy e),λi i0 i1=>dP λe=>zC ?_,λc z r c0 c1 z0 z1 r0 r1=>dP λe=>zC ?_,λc z r c0 c1 z0 z1 r0 r1=>dP λe=>zC ?_⟩
 .have a:=ZI x hx i i0 i1
  have b:=ZI y hy i i0 i1;exact .bp _ _ i i0 i1 (key _ _ a.1 a.2 b.1 b.2 e)
 .have a:=yc x (aj z) hx ax c r c0 c1 r0 r1
  have b:=yc y (aj z) hy ax c r c0 c1 r0 r1
  rw[show((aj z:Nat):Int)=z by omega]at a b
  exact .bl _ _ c z r c0 c1 z0 z1 r0 r1 (key _ _ a.1 a.2 b.1 b.2 e)
 .have a:=yc (aj z) x ax hx c r c0 c1 r0 r1
  have b:=yc (aj z) y ax hy c r c0 c1 r0 r1
  rw[show((aj z:Nat):Int)=z by omega]at a b
  exact .br _ _ c z r c0 c1 z0 z1 r0 r1 (key _ _ a.1 a.2 b.1 b.2 e)
def FE.next(h:kQ D)(hc:FE D st cls k):FE D st (idxs (bj [] (D.j9 cls)) (D.j9 cls)) (ah (bj [] (D.j9 cls))):=by
 have hsl:ah (D.j9 cls)=ah D.K:=by simp[Vd.j9]
 refine⟨VA _ _ rfl,by simp[idxs,hsl],λx y hx hy e=>?_,λx y hx hy e=>?_⟩
 .exact zB.of h hc hx hy λg=>e ((FF h hc.can hc.len hx hy).2 g)
 .exact hc.ac x y hx hy ((FF h hc.can hc.len hx hy).1 e).e
structure ZJ (D:Vd) (st:Int) (cls:ak) (k:Nat):Prop where
 c:FE D st cls k
 L9:∀x y:Nat,x<ah D.K->y<ah D.K->ix cls (x:Int)=ix cls (y:Int)->FD D cls x y
def FE.stop(h:kQ D)(hc:FE D st cls k):(ah (bj [] (D.j9 cls))=k->ZJ D st cls k)/\k<=ah (bj [] (D.j9 cls)):=by
 have hn:=hc.next h
 have hl:=hc.len;have rJ:=hn.len;have:=hn.can.ref hc.can ax λi j hi hj e=>((FF h hc.can hc.len ax ax).1 e).e
 rcases this with⟨e1,e2⟩|cw
 .exact⟨λ_=>⟨hc,λx y hx hy e=>(FF h hc.can hc.len hx hy).1 (by rw[e1];exact e)⟩,ax⟩
 .exact⟨λe=>ax,ax⟩
def Vd.jP (D:Vd):Int:=ix D.plc D.n.aF
def Vd.f0 (D:Vd) (x:Nat):Nat:=if D.ac D.jP (x:Int)=D.ac D.jP 0 then 0 else 1
def Vd.cn (D:Vd):Nat->Nat
 |0=>0
 |x+1=>max (D.cn x) (D.f0 x+1)
def Vd.fs (D:Vd) (x:Nat):ak:=(af x).map λy=>((D.f0 y:Nat):Int)
def VD:D.fs (x+1)=D.fs x ++ [((D.f0 x:Nat):Int)]:=by simp[Vd.fs,kL]
def FG:ah (D.fs x)=x:=by simp[Vd.fs]
def G4:D.f0 x<=1:=by unfold Vd.f0;split<;>omega
def VE{D:Vd}:∀x:Nat,Can (D.fs x) (D.cn x)/\(0<x->1<=D.cn x)/\D.cn x<=2
 |0=>⟨Can.nil,ax,by simp[Vd.cn]⟩
 |x+1=>by
  obtain⟨a,b,g⟩:=VE (D:=D) x;have h:=G4 (D:=D) (x:=x);have d:D.f0 x<=D.cn x:=by
   by_cases e:x=0
   .subst e;simp[Vd.f0]
   .have:=b ax;omega
  rw[VD];refine⟨a.put d,λ_=>?_,?_⟩
  .show 1<=max (D.cn x) (D.f0 x+1);omega
  .show max (D.cn x) (D.f0 x+1)<=2;omega
def Cr{f:Nat}{args:ao}{g:α->AV}{R:α->Prop}(h:LX L f args [] (λr τ=>∃a,cK τ ae r=aa (g a)/\R a)):∃a,PC f args=aa (g a)/\R a:=by
 obtain⟨r,τ,b,a,d,e⟩:=dt h;refine⟨a,?_,e⟩;unfold PC Aj;rw[b];exact d
def anU (D:Vd) (h:kQ D) (Y:vg D) (m:D.n.aF<(ah D.plc:Int)) (a:0<=D.jP/\D.jP<(ah D.n.bQ:Int)) :
  LX L EC [D.vcs.av] [] (λr τ=>∃q:ak×Nat,cK τ ae r=aa (.bY [iL q.1,.int q.2])/\ZJ D D.jP q.1 q.2):=by
 refine ajT rfl ?_;have hfk:=h.f.k;have o:=Y.ok.aF;have O:=h.k;have P:∀x:Nat,x<ah D.K->D.jP<(ah (ix D.K (x:Int)):Int)/\0<=ix (ix D.K (x:Int)) D.jP/\ix (ix D.K (x:Int)) D.jP<(ah D.n.az:Int):=λx d=>by
  have:=Y.kx d;have p:D.jP<(ah (ix D.K (x:Int)):Int):=by rw[this.2];exact a.2
  exact⟨p,this.1 _ (bh a.1 p)⟩
 unfold Vd.jP at a P;have s:=P 0 O;have z:=bz (show 0<(ah D.K:Int)by omega)
 rw[show((0:Nat):Int)=0 from rfl]at s;simp[-aK,-List.map_replicate,o.1,m];refine⟨ax,?_⟩
 refine bB (λx:Nat=>[(1,.int x),(8,.int (D.cn x))]) (λx=>[Zb (D.fs x++ag (ah D.K-x) 0)]) (λx=>x<=ah D.K) (λx=>ah D.K-x) 0 (by simp[fj,Vd.cn,Vd.fs]) ax ?_
 intro x x0;have Q:=VE (D:=D) x
 by_cases d:x<ah D.K
 .have B:=P x d
  have C:(ix D.n.az (ix (ix D.K (x:Int)) (ix D.plc D.n.aF))=ix D.n.az (ix (ix D.K 0) (ix D.plc D.n.aF)))=(D.f0 x=0):=by
   apply propext;unfold Vd.f0 Vd.ac Vd.jP
   by_cases e:ix D.n.az (ix (ix D.K (x:Int)) (ix D.plc D.n.aF))=ix D.n.az (ix (ix D.K 0) (ix D.plc D.n.aF))
   .simp[e]
   .simp[e]
  have M:=VD (D:=D) (x:=x);have p:=FG (D:=D) (x:=x);have g:D.cn (x+1)=max (D.cn x) (D.f0 x+1):=rfl;have hr:ah D.K-x=(ah D.K-(x+1))+1:=ax
  have Z:ix (D.fs x++ag (ah D.K-(x+1)+1) 0) (x:Int)=0:=by
   rw[bt aT,uz ax];simp
  have E:(D.fs x++ag (ah D.K-(x+1)+1) 0).set x 1=D.fs x ++ [1]++ag (ah D.K-(x+1)) 0:=L8 p;have R:ix (D.fs x ++ [1]++ag (ah D.K-(x+1)) 0) (x:Int)=1:=by
   rw[bt aT,te aT,uz ax];simp[p]
  have F:ag (ah D.K-(x+1)+1) (0:Int)=[0]++ag (ah D.K-(x+1)) 0:=by rw[sJ];rfl
  have hf1:=G4 (D:=D) (x:=x);generalize D.fs x=A at *;generalize hcx:D.cn x=k at *;rw[hr]
  by_cases S:D.f0 x=0
  .rw[S]at M g
   simp[-aK,-List.map_append,-List.map_replicate,d,B,s,o.1,m,a.1,z,C,S,Z,p];have u:A++ag (ah D.K-(x+1)+1) (0:Int)=A ++ [((0:Nat):Int)]++ag (ah D.K-(x+1)) 0:=by rw[F];simp
   exact⟨ax,ax,ax,a8 (x+1) (by rw[g];simp;omega) (by rw[M,u]) ax ax⟩
  .have T:D.f0 x=1:=by omega
   rw[T]at M g;have zD:((A++ag (ah D.K-(x+1)+1) 0).map AV.int).set x (AV.int 1)=(A ++ [1]++ag (ah D.K-(x+1)) 0).map AV.int:=by rw[<-List.map_set,E]
   have G:A++(ag (ah D.K-(x+1)+1) (0:Int)).set 0 1=A ++ [1]++ag (ah D.K-(x+1)) 0:=by rw[sJ];simp
   simp[-aK,-List.map_append,-List.map_replicate,-List.append_assoc,d,B,s,o.1,m,a.1,z,C,S,Z,p,G,R];exact⟨ax,ax,ax,ax,ax,a8 (x+1) (by rw[g];simp;omega) (by rw[M];simp) ax ax⟩
 .have ex:x=ah D.K:=by omega
  subst ex;rw[pG,List.replicate_zero,List.append_nil];simp[-aK];refine Cf (b:=0) (l:=D.fs (ah D.K)) ?_ aA FG.symm ?_
  .unfold gr
   rw[aC λe=>by have:=FG (D:=D) (x:=ah D.K);rw[e]at this;simp at this;omega]
  have h0:FE D D.jP (D.fs (ah D.K)) (D.cn (ah D.K)):=by
   have i:∀x:Nat,x<ah D.K->ix (D.fs (ah D.K)) (x:Int)=((D.f0 x:Nat):Int):=λx d=>by
    unfold Vd.fs;rw[kv ax aT,bt (show x<ah (af (ah D.K)) by simp;omega)]
    simp
   refine⟨Q.1,FG,λx y d U e=>?_,λx y d U e=>?_⟩
   .rw[i x d,i y U]at e
    refine .acc _ _ λu=>e ?_;unfold Vd.f0;rw[u]
   .rw[i x d,i y U]at e
    unfold Vd.f0 at e
    by_cases V:D.ac D.jP (x:Int)=D.ac D.jP 0<;>by_cases u:D.ac D.jP (y:Int)=D.ac D.jP 0
    .rw[V,u]
    .simp[V,u]at e
    .simp[V,u]at e
    .cases h1:D.ac D.jP (x:Int)<;>cases h2:D.ac D.jP (y:Int)<;>cases h3:D.ac D.jP 0<;>simp_all
  simp[-aK];refine bB (λq:Bool×ak×Nat=>[(1,if q.1 then .int (ah D.K) else .aW),(2,if q.1 then .int (ah D.K) else .aW),(3,if q.1 then bU D.K else .aW),(5,if q.1 then .int (ix D.plc D.n.aF)else .aW),(6,.aX (q.1 && !decide (D.fs (ah D.K)=[])) (q.2.1.map .int)),(8,.int q.2.2)]) (λ_=>aV [Zb (D.fs (ah D.K))] 0 ⟨ab,(D.fs (ah D.K)).map .int,.dead⟩) (λq=>FE D D.jP q.2.1 q.2.2) (λq=>ah D.K+1-q.2.2) (ad,D.fs (ah D.K),D.cn (ah D.K)) bS h0 ?_
  rintro⟨b,cls,k⟩ N;dsimp only at N ⊢;have j:=anQ D h cls N.len;obtain⟨H, arR⟩:=N.stop h;have W:=N.next h
  have X:=W.can.len;rw[W.len]at X;generalize idxs (bj [] (D.j9 cls)) (D.j9 cls)=I at *;generalize (ah (bj [] (D.j9 cls)))=J at *
  by_cases hk:J=k
  .have w :=bz (show(J:Int)=(k:Int)by omega)
   simp[-aK,j,w];exact⟨cls,J,⟨rfl,rfl⟩,by rw[hk];exact H hk⟩
  .have w :=eG (show ¬(J:Int)=(k:Int)by omega)
   simp[-aK,j,w];exact a8 (ae,I,J) aA rfl W aR
def anV (D:Vd) (h:kQ D) (d:vg D) (a:D.n.aF<(ah D.plc:Int)) (b:0<=D.jP/\D.jP<(ah D.n.bQ:Int)) :
  ∃q:ak×Nat,PC EC [D.vcs.av]=aa (.bY [iL q.1,.int q.2])/\ZJ D D.jP q.1 q.2:=Cr (g:=λq:ak×Nat=>.bY [iL q.1,.int q.2]) (anU D h d a b)
end Ab
