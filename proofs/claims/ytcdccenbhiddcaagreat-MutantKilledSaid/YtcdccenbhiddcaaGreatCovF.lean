/- Comparisons, sorted words, in memory. Condition: none. -/
import Derived.Test.YtcdccenbhiddcaaGreatGbf
import Derived.Test.YtcdccenbhiddcaaGreatCovB
import Derived.Test.YtcdccenbhiddcaaGreatMnlT
set_option linter.all false
set_option maxRecDepth 100000
set_option maxHeartbeats 4000000
namespace Ab
def cI (x y:Int):Int:=if x<y then -1 else if y<x then 1 else 0
def YG (x:Int):PC uN [.int x]=some (.bool false):=by
 refine ba (WS rfl ?_);simp
def IG (x y:Int):PC uM [.int x,.int y]=some (.int (cI x y)):=by
 refine ba (WN rfl ?_);simp[YG];refine⟨λh=>by simp[cI,h],λh=>⟨λk=>?_,λk=>?_⟩⟩
 .simp[cI,k];omega
 .simp[cI];omega
def YH (x y:Int):PC yO [.aA false [.int x,.int y]]=some (.int (if x=0 then y else x)):=by
 refine ba (WM rfl ?_);have e:(.aA false [.int x,.int y]:AV)=iL [x,y]:=rfl;rw[e];simp only[iL];generalize b:[x,y]=l;have hlen:l.length=2:=by rw[<-b];rfl
 simp[hlen];refine a6 (λi:Int=>[(1,.int i)]) (λ_=>[]) (λi=>0<=i/\i<=2/\∀j,0<=j->j<i->ix l j=0) (λi=>(2-i).toNat) 0 rfl ⟨aa,aa,nE⟩ λi ⟨o,i1,a⟩=>?_
 have d:ix l 0=x:=by rw[<-b];rfl
 have f:ix l 1=y:=by rw[<-b];rfl
 by_cases g:i<2
 .simp[-ax,g,o,hlen]
  refine⟨λh=>⟨aa,aL (i+1) rfl rfl ⟨aa,aa,kB h a⟩ aa⟩,λh=>?_⟩
  by_cases e:i=0
  .subst e;rw[d]at h ⊢;simp[h]
  .have:i=1:=by omega
   subst this;have:=a 0 aa aa
   rw[d]at this;rw[f];simp[this]
 .have m:=a 0 aa aa
  have n:=a 1 aa aa
  rw[d]at m;rw[f]at n;simp[g,m,n]
def YI{a b:List Int}{i:Int}(d:0<=i) (e:i<a.length) (f:i<b.length):bh (a.drop i.toNat) (b.drop i.toNat)=if cI (ix a i) (ix b i)=0 then bh (a.drop (i+1).toNat) (b.drop (i+1).toNat)else cI (ix a i) (ix b i):=by
 rw[rW d e,rW d f];unfold cI;simp only[bh];split
 .simp
 .split<;>simp
def IH (a b:List Int) (l:(a.length:Int)<=9223372036854775807) (m:(b.length:Int)<=9223372036854775807):PC uL [iL a,iL b]=some (.int (bh a b)):=by
 refine ba (WD rfl ?_);simp;refine a6 (λi:Int=>[(2,.int i)]) (λ_=>[]) (λi=>0<=i/\i<=a.length/\i<=b.length/\bh (a.drop i.toNat) (b.drop i.toNat)=bh a b) (λi=>(a.length-i).toNat) 0 rfl ⟨aa,aa,aa,rfl⟩ λi ⟨f,i1,n,d⟩=>?_
 by_cases g:i<a.length
 .by_cases j:i<b.length
  .have e:=YI f g j
   rw[d]at e;simp[-ax,g,j,f,IG,show ¬(b.length:Int)<=i by omega]
   refine⟨λh=>⟨aa,aL (i+1) rfl rfl ⟨aa,aa,aa,by rw[ah h]at e;exact e.symm⟩ aa⟩,λh=>by rw[ae h]at e;exact e.symm⟩
  .have e:b.drop i.toNat=[]:=xW aa
   rw[e,rW f g]at d;have d:(1:Int)=bh a b:=d;simp[-ax,g,j,f,show(b.length:Int)<=i by omega]
   exact d
 .have e:a.drop i.toNat=[]:=xW aa
  rw[e]at d;simp[g]
  by_cases j:i<b.length
  .rw[rW f j]at d
   have d:(-1:Int)=bh a b:=d;exact⟨λ_=>d,λh=>aa⟩
  .rw[xW aa]at d
   have d:(0:Int)=bh a b:=d;exact⟨λh=>aa,λ_=>d⟩
def YJ (a b:List Int) (d:(a.length:Int)<=9223372036854775807) (e:(b.length:Int)<=9223372036854775807):PC uJ [iL a,iL b]=some (.int (bp a b)):=by
 refine ba (WA rfl ?_);simp[IG,IH a b d e,YH];unfold bp cI
 (repeat' split)<;>first|rfl|omega
abbrev wh:=List Int->List Int->Int
section
variable{K:wh}
def mu (K:wh) (x:List Int):List (List Int)->List (List Int)
 | []=>[x]
 |y::r=>if K x y<=0 then x::y::r else y::mu K x r
def cU (K:wh):List (List Int)->List (List Int)
 | []=>[]
 |x::r=>mu K x (cU K r)
def II (x:List Int):∀l:List (List Int),lW K (iL x) (l.map iL)=(mu K x l).map iL
 | []=>rfl
 |y::r=>by
  have e:qI K (iL x) (iL y)=decide (K x y<=0):=by
   unfold qI;rw[show bg (iL x)=some x from tQ x,show bg (iL y)=some y from tQ y]
  simp only[bC,lW,mu,e,II x r]
  by_cases h:K x y<=0<;>simp[h]
def IJ:∀l:List (List Int),cx K (l.map iL)=(cU K l).map iL
 | []=>rfl
 |x::r=>by simp only[bC,cx,cU,IJ r,II]
def Bl (x:List Int):∀l,(mu K x l).Perm (x::l)
 | []=>.refl _
 |y::r=>by
  unfold mu;split
  .exact .refl _
  .exact((Bl x r).cons y).trans (.swap x y r)
def vh:∀l,(cU K l).Perm l
 | []=>.refl _
 |x::r=>(Bl x _).trans ((vh r).cons x)
def YK (a:my K){u v:List Int}(h:¬K u v<=0):K v u<=0:=by have:=a.iC u v;omega
def IK (f:my K) (x:List Int):∀{l:List (List Int)},l.Pairwise (λa b=>K a b<=0)->(mu K x l).Pairwise (λa b=>K a b<=0)
 | [],_=>by simp[mu]
 |y::r,h=>by
  rw[ff]at h;unfold mu;split
  .rename_i e
   rw[ff,ff];refine⟨λa d=>?_,h⟩;rcases bR.1 d with rfl|d
   .exact e
   .exact f.trans _ _ _ e (h.1 a d)
  .rename_i e
   rw[ff];refine⟨λa d=>?_,IK f x h.2⟩;rcases bR.1 ((Bl x r).mem_iff.1 d)with rfl|d
   .exact YK f e
   .exact h.1 a d
def IL (d:my K):∀l,(cU K l).Pairwise (λa b=>K a b<=0)
 | []=>.nil
 |x::r=>IK d x (IL d r)
def dw (l:List (List Int)):Nat->List (List Int)
 |0=>[]
 |n+1=>if 0<n/\ix l (n:Int)=ix l ((n:Int)-1)then dw l n else dw l n ++ [ix l (n:Int)]
def dn (l:List (List Int)):List (List Int):=dw l l.length
def IM (l:List (List Int)):∀n,(dw l n).length<=n
 |0=>by simp[dw]
 |n+1=>by
  have:=IM l n;unfold dw;split
  .omega
  .simp;omega
def Bm{l:List (List Int)}:∀{n:Nat}{w:List Int},n<=l.length->(w∈dw l n↔∃j:Int,0<=j/\j<n/\ix l j=w)
 |0,w,_=>by simp[dw];intro j;omega
 |n+1,w,h=>by
  have f:=λw=>Bm (l:=l) (n:=n) (w:=w) aa
  unfold dw;split
  .rename_i g
   rw[f];constructor
   .rintro⟨j,a,b,e⟩;exact⟨j,a,aa,e⟩
   .rintro⟨j,a,b,e⟩
    by_cases d:j=(n:Int)
    .subst d;exact⟨(n:Int)-1,aa,aa,by rw[<-g.2];exact e⟩
    .exact⟨j,a,aa,e⟩
  .rw[cp,f]
   constructor
   .rintro(⟨j,a,b,e⟩|e)
    .exact⟨j,a,aa,e⟩
    .simp at e;exact⟨n,aa,aa,e.symm⟩
   .rintro⟨j,a,b,e⟩
    by_cases d:j=(n:Int)
    .subst d;right;simp[e]
    .left;exact⟨j,a,aa,e⟩
variable{l:List (List Int)}{w:List Int}
def YL:w∈dn l↔w∈l:=by
 unfold dn;rw[Bm (aY _)];constructor
 .rintro⟨j,a,b,rfl⟩;exact bt a b
 .intro h
  obtain⟨i,d,rfl⟩:=cd.1 h;exact⟨i,aa,aa,aK d⟩
abbrev lq (K:wh) (l:List (List Int)):Prop:=l.Pairwise λa b=>K a b<0
def wi (d:my K)(h:l.Pairwise (λa b=>K a b<=0)){i j:Int}(f:0<=i) (g:i<=j) (m:j<l.length):K (ix l i) (ix l j)<=0:=by
 by_cases e:i=j
 .subst e;exact Int.le_of_eq (d.refl _)
 .rw[pL]at h
  have:=h i.toNat j.toNat aa aa aa
  rw[<-aK aa,<-aK aa]at this
  rwa [show((i.toNat:Nat):Int)=i by omega,show((j.toNat:Nat):Int)=j by omega]at this
def IN (d:my K){l:List (List Int)}(h:l.Pairwise (λa b=>K a b<=0)):∀{n:Nat},n<=l.length->lq K (dw l n)
 |0,_=>.nil
 |n+1,u=>by
  have g:=IN d h (n:=n) aa
  unfold dw;split
  .exact g
  .rename_i f
   rw[lq,List.pairwise_append];refine⟨g,ab,λa o b i=>?_⟩
   simp at i;subst i;obtain⟨j,p,w,rfl⟩:=(Bm aa).1 o
   have q:0<n:=aa
   have m:=wi d h p (show j<=(n:Int)-1 by omega) aa
   have r:=wi d h (show 0<=(n:Int)-1 by omega) (show(n:Int)-1<=n by omega) aa
   have x:¬K (ix l ((n:Int)-1)) (ix l n)=0:=λe=>f ⟨q,(d.eq _ _ e).symm⟩;have y:=d.trans _ _ _ m r
   by_cases e:K (ix l j) (ix l n)=0
   .have s :=d.eq _ _ e
    rw[s]at m;have:=d.iC (ix l n) (ix l ((n:Int)-1));omega
   .omega
def dK (K:wh) (l:List (List Int)):List (List Int):=dn (cU K l)
def vi:w∈dK K l↔w∈l:=by
 unfold dK;rw[YL,(vh l).mem_iff]
def Bn (a:my K) (l:List (List Int)):lq K (dK K l):=IN a (IL a l) (aY _)
def IP (b:my K){a:List Int}(h:K a a<0):False:=by have:=b.refl a;omega
def IQ (f:my K):∀{l k:List (List Int)},lq K l->lq K k->(∀w,w∈l↔w∈k)->l=k
 | [],[],_,_,_=>rfl
 | [],y::k,_,_,h=>by have:=(h y).2 ab;simp at this
 |x::l,[],_,_,h=>by have:=(h x).1 ab;simp at this
 |x::l,y::k,g,i,h=>by
  rw[lq,ff]at g i;have e:x=y:=by
   rcases bR.1 ((h x).1 ab)with e|m
   .exact e
   .rcases bR.1 ((h y).2 ab)with e|n
    .exact e.symm
    .have a:=i.1 x m
     have b:=g.1 y n;have:=f.iC x y;omega
  subst e;rw[IQ f g.2 i.2 λw=>?_];constructor
  .intro d
   rcases bR.1 ((h w).1 cW)with e|j
   .subst e;exact(IP f (g.1 w d)).elim
   .exact j
  .intro d
   rcases bR.1 ((h w).2 cW)with e|j
   .subst e;exact(IP f (i.1 w d)).elim
   .exact j
def YM (a:my K){k:List (List Int)}(b:lq K k) (h:∀w,w∈l↔w∈k):dK K l=k:=IQ a (Bn a l) b λw=>by rw[vi,h]
def Bo (l:List (List Int)):(dn l).length<=l.length:=IM l _
def sT (l:List (List Int)):(cU K l).length=l.length:=(vh l).length_eq
end
abbrev lM (l:List (List Int)):Prop:=lq bp l
abbrev dD (l:List (List Int)):List (List Int):=dK bp l
variable{l:List (List Int)}
def Bp{k:List (List Int)}(a:lM k) (h:∀w,w∈l↔w∈k):dD l=k:=YM fe a h
def Br{w:List Int}:w∈dD l↔w∈l:=vi
def YN{ce:CE}{g:Nat}{a d:List AV}(h:agree ce g a bp d=true) (k:agree ce g a bh d=true):cx bp d=cx bh d:=by
 have o:gb d:=λx i=>by
  obtain⟨u,v,j,_⟩:=l0 h i i;exact⟨u,j⟩
 refine Di pJ o (om d) ?_;have r:=xi fe o;refine r.imp_of_mem fun {x y} i s n=>?_;have b :=(om d).mem_iff.1 i;have f :=(om d).mem_iff.1 s;obtain⟨u,v,j,p,w⟩:=l0 h b f;obtain⟨z, A, l,m,q⟩:=l0 k b f;rw[j]at l;rw[p]at m;injection l with l;injection m with m
 subst l;subst m;rw[w]at q;have e:bp u v=bh u v:=by simpa using q
 rw[lZ j p]at n ⊢;omega
structure Bs (f:Nat) (K:wh):Prop where
 ok:my K
 run:∀a b:List Int,(a.length:Int)<=1000000->(b.length:Int)<=1000000->PC f [iL a,iL b]=some (.int (K a b))
 one:K=bp\/K=bh
def YO:Bs uJ bp:=⟨fe,λa b d e=>YJ a b aa aa,.inl rfl⟩
section
variable{K:wh}
abbrev LB (ws:List (List Int)) (k:Nat):aj:=⟨none,ws.map iL++List.replicate k .ag,.live⟩
abbrev Lb (ws:List (List Int)):aj:=⟨none,ws.map iL,.live⟩
abbrev mw (ws:List (List Int)):Prop:=∀w∈ws,(w.length:Int)<=1000000
def IS (w:List Int) (h:(w.length:Int)<=1000000):PC iS [iL w]=some (iL w):=by
 first
 |(
  have e:o5 (cN G Q 0) [iL w]=some (iL w):=by
   simp only[o5,iL];rw[ah];simp[isScalar]
   try omega
  have:=uR e;unfold PC jN;rw[this]
  rfl)
 |(
  cases w with
  |nil=>
   have e:db (cN G Q 0) [iL []] []=some (.emp,[]):=rfl;have:=uR e;unfold PC jN;rw[this]
   rfl
  |cons x l=>
   have e:db (cN G Q 0) [iL (x::l)] []=some (.sl 0 (x::l).length 0 (x::l).length,[⟨none,(x::l).map .int,.live⟩]):=by
    simp only[db,iL,bC];rw[ah]
    .simp
    .simp[isScalar,cE]
     simp at h;omega
   have:=uR e;unfold PC jN;rw[this];exact iU rfl rfl rfl)
variable{σ:List aj}{b u:Nat}
def YP{vars env:List AV}{x:Rf}{z:List AV}{k:Option Nat}{a:List aj}{K:List AV->List aj->List aj->Prop}{off len:Nat}{B:aj}(d:rv vars env x = .sl b u off len) (e:upto σ b u=some B) (f:0<len/\off+len*aC k<=B.cells.length/\aC B.k=aC k/\z.length=aC k/\B.st.isLive=true):bA L vars (.oY x z k) false env a σ K=K (.au::env) [] (az σ b ⟨B.k,putAt B.cells off (cS len z),B.st⟩):=by
 show aH (dO L σ (rv vars env) (.oY x z k)) (λp=>K (p.1::env) [] p.2)=_;simp only[dO,d,e];rw[ah f];rfl
variable{vs:List (List Int)}
def IT(h:dw vs vs.length=vs.take vs.length):dn vs=vs:=by unfold dn;rw[h,kW]
theorem IU(h:0<vs.length):dw vs 1=vs.take 1:=by
 match vs,h with
 |x::r,_=>rfl
variable{k:Int}
def IV(k0:1<=k) (h:ix vs k=ix vs (k-1)):dw vs (k+1).toNat=dw vs k.toNat:=by
 rw[show(k+1).toNat=k.toNat+1 by omega]
 conv=>lhs;unfold dw
 rw[ah ⟨aa,by rw[show((k.toNat:Nat):Int)=k by omega];exact h⟩]
def IW(k0:1<=k) (h:¬ix vs k=ix vs (k-1)):dw vs (k+1).toNat=dw vs k.toNat ++ [ix vs k]:=by
 rw[show(k+1).toNat=k.toNat+1 by omega]
 conv=>lhs;unfold dw
 rw[ae (λ⟨_,e⟩=>h (by rwa [show((k.toNat:Nat):Int)=k by omega]at e)),show((k.toNat:Nat):Int)=k by omega]
def YQ(a:0<=k) (b:k<vs.length):vs.take (k+1).toNat=vs.take k.toNat ++ [ix vs k]:=by
 rw[show(k+1).toNat=k.toNat+1 by omega,eD,ky a b];rfl
def YR{ws:List (List Int)}(h:mw ws):mw (cU K ws):=λw a=>h w ((vh ws).mem_iff.1 a)
def YS (ws:List (List Int)) (b:ws ≠ []) (j:(ws.length:Int)<=1000000):L sm [aW ws] []=some (.sl 0 ws.length 0 ws.length,[Lb ws]):=by
 refine Hf (N:=0) ?_;obtain⟨x,l,rfl⟩:∃x l,ws=x::l:=by
  cases ws with
  |nil=>exact absurd rfl b
  |cons x l=>exact⟨x,l,rfl⟩
 have d:∀k:List (List Int),(k.map iL).all lG=true:=λk=>by simp[lG]
 have e:∀k:List (List Int),aq (k.map iL)=true:=λk=>by
  induction k with
  |nil=>rfl
  |cons a r f=>simp only[bC,aq,aB,Bool.true_and];exact f
 have g:((x::l).map iL).length<=cE:=by rw[cP];show(x::l).length<=1073741824;omega
 have h:((x::l).map iL).map dr=(x::l).map iL:=by simp[dr]
 have i:(((x::l).map iL).all lG&&aq ((x::l).map iL)&&decide (((x::l).map iL).length<=cE))=true:=by
  rw[d,e,decide_eq_true g];rfl
 show dP (cN G Q 0) [.aA false (iL x::l.map iL)] []=_;unfold dP;refine(ah i).trans ?_;rw[show(iL x::l.map iL)=(x::l).map iL from rfl,h,cP]
 rfl
def IX{a:Type}{f:a->AV}{rest:List AV}:∀{xs:List a},chunk none xs.length (xs.map f++rest)=xs.map f
 | []=>rfl
 |x::xs=>by
  have e:=IX (f:=f) (rest:=rest) (xs:=xs);simp only[eO,bC,kU,chunk,e]
variable{r:Nat}{xs:List (List Int)}
def IY{fr:Bool}{st:c6}(h:ay σ b=some ⟨none,xs.map iL++List.replicate r .ag,st⟩) (d:st.eH=true) (a:u=xs.length+r):view σ false vd (.sl b u 0 xs.length)=some (aW xs):=by
 subst a;have a:upto σ b (xs.length+r)=some ⟨none,xs.map iL++List.replicate r .ag,st⟩:=by
  unfold upto;rw[h];cases st<;>simp at d ⊢
 show view σ false (11+1) _=_;unfold view;simp only[a,aC,iF,eL,Nat.mul_one];rw[ah ab,IX,nI (f:=iL) (g:=iL) (v:=view σ false 11) λ_ _=>rfl]
variable{i:Int}
def YT(a:0<=i) (b:i<xs.length):jL (xs.map iL++List.replicate r AV.ag) i.toNat=some (iL (ix xs i)):=by
 rw[jA,dG ai,eQ,ky a b];rfl
def YU(a:0<=i) (b:i<xs.length):(xs.map iL++List.replicate r AV.ag).set i.toNat (iL (ix xs i))=xs.map iL++List.replicate r AV.ag:=by
 rw[iG,ah ai,<-List.map_set]
 congr 2
 have:ix xs i=xs[i.toNat]:=by
  have:=aK (l:=xs) (n:=i.toNat) aa
  rwa [show((i.toNat:Nat):Int)=i by omega]at this
 rw[this];exact List.set_getElem_self _
end
section
variable{f:Nat}{K:wh}(hF:Bs f K)
include hF
theorem YV (ws:List (List Int)) (l:ws ≠ []) (w:(ws.length:Int)<=1000000) (j:mw ws):L sn [.sl 0 ws.length 0 ws.length,.func f []] [Lb ws]=some (.bz [],[Lb (cU K ws)]):=by
 have m:∀x∈ws.map iL,∀y∈ws.map iL,∃u v,bg x=some u/\bg y=some v/\iu (lim G Q) f (x::y :: [])=some (.int (K u v)):=by
  intro x n y o;obtain⟨u,i,rfl⟩:=cB.1 n;obtain⟨v,p,rfl⟩:=cB.1 o;refine⟨u,v,tQ u,tQ v,?_⟩;have:=hF.run u v (j u i) (j v p);unfold iu;rw[ah ab]
  exact this
 obtain⟨N,b⟩:=Mz jB m;refine Hg (N:=N) ?_;have q:0<ws.length:=fc.2 l;have i:upto [Lb ws] 0 ws.length=some (Lb ws):=by simp[upto,ay]
 have d:(ws.map iL).length<=cE:=by rw[cP];show ws.length<=1073741824;omega
 simp only[iB,i];have r:(((ws.map iL).drop 0).take ws.length)=ws.map iL:=by rw[iF,hJ ab]
 rw[r];have a:((c6.live).isLive&&dV none&&decide (0<ws.length)&&decide (0+ws.length<=(ws.map iL).length)&&decide ((ws.map iL).length<=cE))=true:=by
  simp only[cP]at d ⊢;simp[q,c6.isLive,dV]
  try omega
 rw[ah a];have g:(if agree (cN G Q N) f [] bp (ws.map iL)=true then some (AV.bz [],az [Lb ws] 0 ⟨none,putAt (ws.map iL) 0 (cx bp (ws.map iL)),.live⟩)else if agree (cN G Q N) f [] bh (ws.map iL)=true then some (AV.bz [],az [Lb ws] 0 ⟨none,putAt (ws.map iL) 0 (cx bh (ws.map iL)),.live⟩)else none)=some (AV.bz [],az [Lb ws] 0 ⟨none,putAt (ws.map iL) 0 (cx K (ws.map iL)),.live⟩):=by
  rcases hF.one with e|e
  .rw[e]at b ⊢;rw[ah b]
  .rw[e]at b ⊢
   by_cases h:agree (cN G Q N) f [] bp (ws.map iL)=true
   .rw[ah h,YN h b]
   .rw[ae h,ah b]
 rw[g,IJ];have s:putAt (ws.map iL) 0 ((cU K ws).map iL)=(cU K ws).map iL:=by
  unfold putAt;rw[List.take_zero,kM,kP (by simp[sT])];simp
 rw[s]
theorem IZ (a b:List Int) (d:(a.length:Int)<=1000000) (g:(b.length:Int)<=1000000):PC sq [iL a,iL b,.ar (.func f [])]=some (.bool (decide (a=b))):=by
 refine ba (WC rfl ?_);have e:=hF.run a b d g;simp[e];exact⟨hF.ok.eq a b,λh=>by subst h;exact hF.ok.refl a⟩
theorem YW (vs:List (List Int)) (G:vs ≠ []) (P:(vs.length:Int)<=1000000) (s:mw vs) :
  LX L uK [.sl 0 vs.length 0 vs.length,.func sq [.ar (.func f [])]] [Lb vs] (λv H=>v = .sl 0 vs.length 0 (dn vs).length/\H=[LB (dn vs) (vs.length-(dn vs).length)]):=by
 have E:0<vs.length:=fc.2 G;refine Hh rfl ?_
 by_cases Q:vs.length<2
 .simp[show(vs.length:Int)<2 by omega]
  have u:vs.length=1:=aa
  rw[IT (by rw[u];exact IU E)];simp
 .simp[show ¬(vs.length:Int)<2 by omega]
  refine a6 (λk:Int=>[(2,.int k)]) (λ_=>[Lb vs]) (λk=>1<=k/\k<=vs.length/\dw vs k.toNat=vs.take k.toNat) (λk=>(vs.length-k).toNat) 1 rfl ⟨aa,aa,?_⟩ λk ⟨I,R,l⟩=>?_
  .exact IU E
  by_cases w:k<vs.length
  .have e:=IZ hF (ix vs k) (ix vs (k-1)) (s _ (bt aa w)) (s _ (bt aa aa))
   simp[-ax,w,show 0<=k by omega,show 0<=k-1 by omega,show k-1<(vs.length:Int)by omega,e]
   refine⟨aa,aa,aa,λx=>⟨aa,?_⟩,λx=>⟨aa,aL (k+1) rfl rfl ⟨aa,aa,by rw[IW aa x,l,YQ aa w]⟩ aa⟩⟩
   obtain⟨k,rfl⟩:∃J : Nat,k=J :=⟨k.toNat,aa⟩
   have K:k<vs.length:=aa
   rw[kg]at l ⊢;have g:=IV (vs:=vs) I x;rw[show((k:Int)+1).toNat=k+1 by omega,kg,l]at g
   refine a6 (λp:Nat×Nat×List (List Int)=>[(2,.int p.1),(3,.int ((p.2.1:Int)+1))]) (λp=>[Lb p.2.2]) (λp=>k+p.2.1+1<=vs.length/\p.2.2.length=vs.length/\p.1=(dw vs (k+p.2.1+1)).length/\p.1<=k+p.2.1/\p.2.2.take p.1=dw vs (k+p.2.1+1)/\∀j:Nat,k+p.2.1<=j->j<vs.length->ix p.2.2 (j:Int)=ix vs (j:Int))
    (λp=>vs.length-p.2.1) (k,0,vs) dL ⟨aI,rfl,by dsimp only;rw[Nat.add_zero,g];simp;omega,aI,by dsimp only;rw[Nat.add_zero,g],λ_ _ _=>rfl⟩ ?_
   rintro⟨q,j,cs⟩ ⟨M,d,m,N,n,o⟩;dsimp only at M d m N n o ⊢
   by_cases O:k+j+1<vs.length
   .have u:=o (k+j+1) aa O
    have F:=o (k+j) aa aa
    have e:=IZ hF (ix vs ((k+j+1:Nat):Int)) (ix vs ((k+j:Nat):Int)) (s _ (bt aa aa)) (s _ (bt aa aa))
    rw[<-u,<-F,show((k+j+1:Nat):Int)=(k:Int)+((j:Int)+1)by omega,show((k+j:Nat):Int)=(k:Int)+j by omega]at e
    simp[-ax,d,show(j:Int)+1<((vs.length-k:Nat):Int)by omega,e]
    have y:ix vs ((k+j+1:Nat):Int)=ix vs ((k+j:Nat):Int)->dw vs (k+(j+1)+1)=dw vs (k+j+1):=λh=>by
     have:=IV (vs:=vs) (k:=((k+j+1:Nat):Int)) aa l8
     rw[show(((k+j+1:Nat):Int)+1).toNat=k+(j+1)+1 by omega,show(((k+j+1:Nat):Int)).toNat=k+j+1 by omega]at this
     exact this
    have z:¬ix vs ((k+j+1:Nat):Int)=ix vs ((k+j:Nat):Int)->dw vs (k+(j+1)+1)=dw vs (k+j+1) ++ [ix vs ((k+j+1:Nat):Int)]:=λh=>by
     have:=IW (vs:=vs) (k:=((k+j+1:Nat):Int)) aa l8
     rw[show(((k+j+1:Nat):Int)+1).toNat=k+(j+1)+1 by omega,show(((k+j+1:Nat):Int)).toNat=k+j+1 by omega]at this
     exact this
    rw[<-u,<-F,show((k+j+1:Nat):Int)=(k:Int)+((j:Int)+1)by omega,show((k+j:Nat):Int)=(k:Int)+j by omega]at y z
    refine⟨aa,aa,aa,aa,aa,λh=>⟨aa,aL (q,j+1,cs) ab rfl ⟨aI,d,by dsimp only;rw[y h];exact m,aI,by dsimp only;rw[y h];exact n,λi a b=>o i (by dsimp only at a;omega) b⟩ aI⟩,λh=>⟨aa,aa,aa,aa,aa,aL (q+1,j+1,cs.set q (ix cs ((k:Int)+((j:Int)+1)))) ab (by simp[List.map_set]) ⟨aI,cW,by dsimp only;rw[z h];simp;exact m,aI,?_,λi a b=>?_⟩ aI⟩⟩
    .dsimp only
     rw[z h,<-n,eD,List.take_set_of_le (aY _),List.getElem?_set_self aa]
     rfl
    .dsimp only at a ⊢
     rw[lh aa aa,ae aa]
     exact o i aa b
   .simp[-ax,show ¬(j:Int)+1<((vs.length-k:Nat):Int)by omega]
    have A:q<=vs.length:=aa
    have C:k+j+1=vs.length:=aa
    rw[C]at m n;refine⟨d,A,?_⟩;rw[YP (B:=Lb cs) rfl (by simp[upto,ay,d]) ⟨aa,by simp[d];omega,rfl,rfl,rfl⟩]
    have r:putAt (cs.map iL) q (cS (vs.length-q) [.ag])=(dn vs).map iL++List.replicate (vs.length-q) .ag:=by
     unfold putAt;rw[<-List.map_take,n,kP (by simp[cS,d];omega)]
     simp[cS,dn]
    have D:(dn vs).length=q:=by unfold dn;exact m.symm
    simp[r,D];omega
  .simp[w]
   rw[show k.toNat=vs.length by omega]at l
   rw[IT l];simp
theorem YX:L uK [.aA false [],.func sq [.ar (.func f [])]] []=some (.aA false [],[]):=by
 refine rR (Hh rfl ?_);simp
theorem I0 (ws:List (List Int)) (y:(ws.length:Int)<=1000000) (o:mw ws):PC sg [aW ws,.func f []]=some (aW (dK K ws)):=by
 refine ba (Wh rfl ?_)
 by_cases l:ws=[]
 .subst l
  have p:L sm [.aA false []] []=some (.aA false [],[]):=Hf (N:=0) rfl;have q:L sn [.aA false [],.func f []] []=some (.bz [],[]):=Hg (N:=0) rfl;have m:=YX hF;simp[p,q,m,iz];refine a6 (λ_:Unit=>[]) (λ_=>[]) (λ_=>True) (λ_=>0) () rfl trivial λ_ _=>?_;simp[dK,cU,dn,dw]
 .have A:cU K ws ≠ []:=λe=>l (fY (by rw[<-sT (K:=K),e];rfl))
  have hlen:=sT (K:=K) ws;have p:=YS ws l y;have q:=YV hF ws l y o;obtain⟨_,_,m,rfl,rfl⟩:=jz (YW hF (cU K ws) A aa (YR o))
  rw[hlen]at m;have s:iy 0 (ws.map iL)=ws.map iL:=by
   have:∀k:List (List Int),iy 0 (k.map iL)=k.map iL:=λk=>by
    induction k with
    |nil=>rfl
    |cons a r B=>simp only[bC,iy,iz,B]
   exact this ws
  simp[p,q,m,iz,fZ,s];have z:=Bo (cU K ws);rw[hlen]at z;have d:mw (dn (cU K ws)):=λw h=>o w (vi.1 h);show W L G2.loop _ _;have C:dK K ws=dn (cU K ws):=rfl;rw[C];generalize dn (cU K ws)=cs at *;have D:=IY (σ:=[LB cs (ws.length-cs.length)]) (fr:=false) (b:=0) (u:=ws.length) (xs:=cs) (r:=ws.length-cs.length) (st:=.live) rfl ab aa
  refine a6 (λi:Int=>[(4,.int i)]) (λ_=>[LB cs (ws.length-cs.length)]) (λi=>0<=i/\i<=cs.length) (λi=>(cs.length-i).toNat) 0 rfl aa λi ⟨n,i1⟩=>?_
  by_cases g:i<cs.length
  .have E:=IS (ix cs i) (d _ (bt n g))
   have x:=YT (xs:=cs) (r:=ws.length-cs.length) n g;have j:=YU (xs:=cs) (r:=ws.length-cs.length) n g;simp[-ax,-List.map_append,g,n,z,x,E,-xX,↓HG,j];exact⟨aa,aa,aL (i+1) ab rfl aa aa⟩
  .simp[g,D]
end
def I7 (ws:List (List Int)) (a:(ws.length:Int)<=1000000) (b:mw ws):PC uC [aW ws]=some (aW (dD ws)):=by
 refine ba (Wf rfl ?_);simp[I0 YO ws a b]
def ak.acc (m:ak):List Int×List (List Int)×Int:=if m.ao ≠ 0 then([],[],m.ao)else((m.af m.start).map (·.1),(m.af m.start).map (·.2),0)
abbrev YY (r:List Int×List (List Int)×Int):AV:=.bz [iL r.1,aW r.2.1,.int r.2.2]
variable{m:ak}
def I9(a:m.ao=0):m.acc=((m.af m.start).map (·.1),(m.af m.start).map (·.2),0):=by unfold ak.acc;rw[ae cV]
def YZ(a:¬m.ao=0):m.acc=([],[],m.ao):=by unfold ak.acc;rw[ah a]
def Ja (m:ak) (h:m.fits):PC yw [m.av]=some (YY m.acc):=by
 refine ba (Wb rfl ?_)
 by_cases a:m.ao=0
 .rw[I9 a]
  have d:=fQ a;obtain⟨o,p⟩:=d.states;have r:=YF m d m.start d.start;have s:=(AN m d m.start d.start).le;simp[-List.map_map,fD m h,a,r];generalize m.af m.start=q at *
  (repeat' apply And.intro)<;>try omega
  refine a6 (λi:Nat=>[(3,.int i),(6,.sl 0 i 0 i),(8,.sl 1 i 0 i)]) (λi=>[fE ((q.map (·.1)).take i),cX ((q.map (·.2)).take i)]) (λi=>i<=q.length) (λi=>q.length-i) 0 dL aa ?_
  intro i u
  by_cases e:i<q.length
  .have g:(q.map (·.1)).take (i+1)=(q.map (·.1)).take i ++ [(ix q (i:Int)).1]:=by
    rw[eD,eQ,cG e,aK e];rfl
   have j:(q.map (·.2)).take (i+1)=(q.map (·.2)).take i ++ [(ix q (i:Int)).2]:=by
    rw[eD,eQ,cG e,aK e];rfl
   have f:min i q.length=i:=Nat.min_eq_left aa
   simp[-ax,-List.map_map,-List.map_take,e,f];refine⟨dA,aa,dA,aa,aa,aL (i+1) ab (by rw[g,j];simp[-List.map_map,-List.map_take]) aa aa⟩
  .have w:i=q.length:=by omega
   subst w;have g:(q.map (·.1)).take q.length=q.map (·.1):=hJ ab
   have j:(q.map (·.2)).take q.length=q.map (·.2):=hJ ab
   rw[g,j];have l:=H5 (σ:=[fE (q.map (·.1)),cX (q.map (·.2))]) (b:=0) (out:=q.map (·.1)) rfl;have n:=A7 (σ:=[fE (q.map (·.1)),cX (q.map (·.2))]) (b:=1) (out:=q.map (·.2)) rfl;rw[cP]at l n;simp[-List.map_map,-List.map_take,l,n]
 .rw[YZ a]
  simp[fD m h,a]
def Y0 (m:ak) (h:m.fits):PC yh [m.av]=some (.bz [aW m.acc.2.1,.int m.acc.2.2]):=by
 refine ba (VX rfl ?_);simp[Ja m h]
end Ab
