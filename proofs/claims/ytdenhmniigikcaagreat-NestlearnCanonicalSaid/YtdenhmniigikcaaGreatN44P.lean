/- Comparisons, sorted words, in memory; and what it leans on. Condition: none. -/
import Derived.Test.YtdenhmniigikcaaGreatBfsOrd
import Derived.Test.YtdenhmniigikcaaGreatN44J
import Derived.Test.YtdenhmniigikcaaGreatCan
set_option linter.all false
set_option maxRecDepth 100000
set_option maxHeartbeats 4000000
namespace Ab
def cI (x y:Int):Int:=if x<y then -1 else if y<x then 1 else 0
def ajz (x:Int):PC A7 [.int x]=some (.bool false):=by
 refine bP (ag2 rfl ?_);simp
def QM (x y:Int):PC AX [.int x,.int y]=some (.int (cI x y)):=by
 refine bP (agC rfl ?_);simp[ajz];refine⟨λh=>by simp[cI,h],λh=>⟨λk=>?_,λk=>?_⟩⟩
 .simp[cI,k];omega
 .simp[cI];omega
def ajA (x y:Int):PC He [.au false [.int x,.int y]]=some (.int (if x=0 then y else x)):=by
 refine bP (agB rfl ?_);have e:(.au false [.int x,.int y]:AV)=iL [x,y]:=rfl;rw[e];simp only[iL];generalize b:[x,y]=l;have hlen:l.length=2:=by rw[<-b];rfl
 simp[hlen];refine aM (λi:Int=>[(1,.int i)]) (λ_=>[]) (λi=>0<=i/\i<=2/\∀j,0<=j->j<i->ix l j=0) (λi=>(2-i).toNat) 0 rfl ⟨by omega,by omega,kH⟩ λi ⟨o,i1,a⟩=>?_
 have e0:ix l 0=x:=by rw[<-b];rfl
 have d:ix l 1=y:=by rw[<-b];rfl
 by_cases g:i<2
 .simp[-ag,g,o,hlen]
  refine⟨λh=>⟨by omega,az (i+1) rfl rfl ⟨by omega,by omega,gC h a⟩ (by omega)⟩,λh=>?_⟩
  by_cases e:i=0
  .subst e;rw[e0]at h ⊢;simp[h]
  .have:i=1:=by omega
   subst this;have:=a 0 (by omega) (by omega)
   rw[e0]at this;rw[d];simp[this]
 .have m:=a 0 (by omega) (by omega)
  have n:=a 1 (by omega) (by omega)
  rw[e0]at m;rw[d]at n;simp[g,m,n]
def ajB{a b:List Int}{i:Int}(d:0<=i) (e:i<a.length) (g:i<b.length):b8 (a.drop i.toNat) (b.drop i.toNat)=if cI (ix a i) (ix b i)=0 then b8 (a.drop (i+1).toNat) (b.drop (i+1).toNat)else cI (ix a i) (ix b i):=by
 rw[Ap d e,Ap d g];unfold cI;simp only[b8];split
 .simp
 .split<;>simp
def ajC (a b:List Int) (m:(a.length:Int)<=9223372036854775807) (n:(b.length:Int)<=9223372036854775807):PC Hf [iL a,iL b]=some (.int (b8 a b)):=by
 refine bP (agD rfl ?_);simp;refine aM (λi:Int=>[(2,.int i)]) (λ_=>[]) (λi=>0<=i/\i<=a.length/\i<=b.length/\b8 (a.drop i.toNat) (b.drop i.toNat)=b8 a b) (λi=>(a.length-i).toNat) 0 rfl ⟨by omega,by omega,by omega,rfl⟩ λi ⟨g,i1,o,d⟩=>?_
 by_cases j:i<a.length
 .by_cases l:i<b.length
  .have e:=ajB g j l
   rw[d]at e;simp[-ag,j,l,g,QM,show ¬(b.length:Int)<=i by omega]
   refine⟨λh=>⟨by omega,az (i+1) rfl rfl ⟨by omega,by omega,by omega,by rw[ab h]at e;exact e.symm⟩ (by omega)⟩,λh=>by rw[aa h]at e;exact e.symm⟩
  .have e:b.drop i.toNat=[]:=EA (by omega)
   rw[e,Ap g j]at d;have d:(1:Int)=b8 a b:=d;simp[-ag,j,l,g,show(b.length:Int)<=i by omega]
   exact d
 .have e:a.drop i.toNat=[]:=EA (by omega)
  rw[e]at d;simp[j]
  by_cases l:i<b.length
  .rw[Ap g l]at d
   have d:(-1:Int)=b8 a b:=d;exact⟨λ_=>d,λh=>by omega⟩
  .rw[EA (by omega)]at d
   have d:(0:Int)=b8 a b:=d;exact⟨λh=>by omega,λ_=>d⟩
def BF (a b:List Int) (d:(a.length:Int)<=9223372036854775807) (e:(b.length:Int)<=9223372036854775807):PC nX [iL a,iL b]=some (.int (aP a b)):=by
 refine bP (af5 rfl ?_);simp[QM,ajC a b d e,ajA];unfold aP cI
 (repeat' split)<;>first|rfl|omega
abbrev CX:=List Int->List Int->Int
section
variable{K:CX}
def vC (K:CX) (x:List Int):List (List Int)->List (List Int)
 | []=>[x]
 |y::r=>if K x y<=0 then x::y::r else y::vC K x r
def fk (K:CX):List (List Int)->List (List Int)
 | []=>[]
 |x::r=>vC K x (fk K r)
theorem QN (x:List Int):∀l:List (List Int),qb K (iL x) (l.map iL)=(vC K x l).map iL
 | []=>rfl
 |y::r=>by
  have e:sB K (iL x) (iL y)=decide (K x y<=0):=by
   unfold sB;rw[show bS (iL x)=some x from uS x,show bS (iL y)=some y from uS y]
  simp only[cJ,qb,vC,e,QN x r]
  by_cases h:K x y<=0<;>simp[h]
theorem QO:∀l:List (List Int),dP K (l.map iL)=(fk K l).map iL
 | []=>rfl
 |x::r=>by simp only[cJ,dP,fk,QO r,QN]
theorem QP (x:List Int):∀l,(vC K x l).Perm (x::l)
 | []=>.refl _
 |y::r=>by
  unfold vC;split
  .exact .refl _
  .exact((QP x r).cons y).trans (.swap x y r)
theorem BG:∀l,(fk K l).Perm l
 | []=>.refl _
 |x::r=>(QP x _).trans ((BG r).cons x)
def fX (l:List (List Int)):Nat->List (List Int)
 |0=>[]
 |n+1=>if 0<n/\ix l (n:Int)=ix l ((n:Int)-1)then fX l n else fX l n ++ [ix l (n:Int)]
def fE (l:List (List Int)):List (List Int):=fX l l.length
theorem QQ (l:List (List Int)):∀n,(fX l n).length<=n
 |0=>by simp[fX]
 |n+1=>by
  have:=QQ l n;unfold fX;split
  .omega
  .simp;omega
theorem QR{l:List (List Int)}:∀{n:Nat}{w:List Int},n<=l.length->(w∈fX l n↔∃j:Int,0<=j/\j<n/\ix l j=w)
 |0,w,_=>by simp[fX];intro j;omega
 |n+1,w,h=>by
  have g:=λw=>QR (l:=l) (n:=n) (w:=w) (by omega)
  unfold fX;split
  .rename_i i
   rw[g];constructor
   .rintro⟨j,a,b,e⟩;exact⟨j,a,by omega,e⟩
   .rintro⟨j,a,b,e⟩
    by_cases d:j=(n:Int)
    .subst d;exact⟨(n:Int)-1,by omega,by omega,by rw[<-i.2];exact e⟩
    .exact⟨j,a,by omega,e⟩
  .rw[dQ,g]
   constructor
   .rintro(⟨j,a,b,e⟩|e)
    .exact⟨j,a,by omega,e⟩
    .simp at e;exact⟨n,by omega,by omega,e.symm⟩
   .rintro⟨j,a,b,e⟩
    by_cases d:j=(n:Int)
    .subst d;right;simp[e]
    .left;exact⟨j,a,by omega,e⟩
variable{l:List (List Int)}{w:List Int}
theorem ajD:w∈fE l↔w∈l:=by
 unfold fE;rw[QR (aT _)];constructor
 .rintro⟨j,a,b,rfl⟩;exact aO a b
 .intro h
  obtain⟨i,d,rfl⟩:=fu.1 h;exact⟨i,by omega,by omega,aG d⟩
abbrev ajE (K:CX) (l:List (List Int)):Prop:=l.Pairwise λa b=>K a b<0
def mf (K:CX) (l:List (List Int)):List (List Int):=fE (fk K l)
theorem QS:w∈mf K l↔w∈l:=by
 unfold mf;rw[ajD,(BG l).mem_iff]
theorem QT (l:List (List Int)):(fE l).length<=l.length:=QQ l _
theorem BH (l:List (List Int)):(fk K l).length=l.length:=(BG l).length_eq
end
abbrev zk (l:List (List Int)):Prop:=ajE aP l
abbrev fZ (l:List (List Int)):List (List Int):=mf aP l
def ajF{l:List (List Int)}{w:List Int}:w∈fZ l↔w∈l:=QS
def ajG{ce:CE}{g:Nat}{a d:List AV}(h:agree ce g a aP d=true) (k:agree ce g a b8 d=true):dP aP d=dP b8 d:=by
 have p:jE d:=λx j=>by
  obtain⟨u,v,l,_⟩:=qd h j j;exact⟨u,l⟩
 refine Lf Lc p (sR d) ?_;have s:=DY dE p;refine s.imp_of_mem fun {x y} j w o=>?_;have b :=(sR d).mem_iff.1 j;have i :=(sR d).mem_iff.1 w;obtain⟨u,v,l,q,z⟩:=qd h b i;obtain⟨u', A, m,n,r⟩:=qd k b i;rw[l]at m;rw[q]at n;injection m with m;injection n with n
 subst m;subst n;rw[z]at r;have e:aP u v=b8 u v:=by simpa using r
 rw[qc l q]at o ⊢;omega
structure QU (f:Nat) (K:CX):Prop where
 ok:zS K
 run:∀a b:List Int,(a.length:Int)<=1000000->(b.length:Int)<=1000000->PC f [iL a,iL b]=some (.int (K a b))
 one:K=aP\/K=b8
def ajH:QU nX aP:=⟨dE,λa b d e=>BF a b (by omega) (by omega),.inl rfl⟩
section
variable{K:CX}
abbrev LB (ws:List (List Int)) (k:Nat):ah:=⟨none,ws.map iL++List.replicate k .ae,.live⟩
abbrev Lb (ws:List (List Int)):ah:=⟨none,ws.map iL,.live⟩
abbrev ox (ws:List (List Int)):Prop:=∀w∈ws,(w.length:Int)<=1000000
theorem QV (w:List Int) (h:(w.length:Int)<=1000000):PC ts [iL w]=some (iL w):=by
 first
 |(
  have e:ub (cN G Q 0) [iL w]=some (iL w):=by
   simp only[ub,iL];rw[ab];simp[isScalar]
   try omega
  have:=Ha e;unfold PC wj;rw[this]
  rfl)
 |(
  cases w with
  |nil=>
   have e:fP (cN G Q 0) [iL []] []=some (.emp,[]):=rfl;have:=Ha e;unfold PC wj;rw[this]
   rfl
  |cons x l=>
   have e:fP (cN G Q 0) [iL (x::l)] []=some (.sl 0 (x::l).length 0 (x::l).length,[⟨none,(x::l).map .int,.live⟩]):=by
    simp only[fP,iL,cJ];rw[ab]
    .simp
    .simp[isScalar,dz]
     simp at h;omega
   have:=Ha e;unfold PC wj;rw[this];exact ow rfl rfl rfl)
variable{σ:List ah}{b u:Nat}
theorem ajI{vars env:List AV}{x:Rf}{z:List AV}{k:Option Nat}{a:List ah}{K:List AV->List ah->List ah->Prop}{off len:Nat}{B:ah}(d:rv vars env x = .sl b u off len) (e:upto σ b u=some B) (g:0<len/\off+len*aE k<=B.cells.length/\aE B.k=aE k/\z.length=aE k/\B.st.isLive=true):bY L vars (.tY x z k) false env a σ K=K (.aF::env) [] (ar σ b ⟨B.k,putAt B.cells off (dI len z),B.st⟩):=by
 show aL (fI L σ (rv vars env) (.tY x z k)) (λp=>K (p.1::env) [] p.2)=_;simp only[fI,d,e];rw[ab g];rfl
variable{vs:List (List Int)}
theorem QW(h:fX vs vs.length=vs.take vs.length):fE vs=vs:=by unfold fE;rw[h,List.take_length]
theorem QX(h:0<vs.length):fX vs 1=vs.take 1:=by
 match vs,h with
 |x::r,_=>rfl
variable{k:Int}
theorem QY(k0:1<=k) (h:ix vs k=ix vs (k-1)):fX vs (k+1).toNat=fX vs k.toNat:=by
 rw[show(k+1).toNat=k.toNat+1 by omega]
 conv=>lhs;unfold fX
 rw[ab ⟨by omega,by rw[show((k.toNat:Nat):Int)=k by omega];exact h⟩]
theorem QZ(k0:1<=k) (h:¬ix vs k=ix vs (k-1)):fX vs (k+1).toNat=fX vs k.toNat ++ [ix vs k]:=by
 rw[show(k+1).toNat=k.toNat+1 by omega]
 conv=>lhs;unfold fX
 rw[aa (λ⟨_,e⟩=>h (by rwa [show((k.toNat:Nat):Int)=k by omega]at e)),show((k.toNat:Nat):Int)=k by omega]
theorem ajJ(a:0<=k) (b:k<vs.length):vs.take (k+1).toNat=vs.take k.toNat ++ [ix vs k]:=by
 rw[show(k+1).toNat=k.toNat+1 by omega,k8,ko a b];rfl
theorem ajK{ws:List (List Int)}(h:ox ws):ox (fk K ws):=λw a=>h w ((BG ws).mem_iff.1 a)
theorem ajL (ws:List (List Int)) (b:ws ≠ []) (m:(ws.length:Int)<=1000000):L xQ [bN ws] []=some (.sl 0 ws.length 0 ws.length,[Lb ws]):=by
 refine OS (N:=0) ?_;obtain⟨x,l,rfl⟩:∃x l,ws=x::l:=by
  cases ws with
  |nil=>exact absurd rfl b
  |cons x l=>exact⟨x,l,rfl⟩
 have d:∀k:List (List Int),(k.map iL).all pH=true:=λk=>by simp[pH]
 have e:∀k:List (List Int),ax (k.map iL)=true:=λk=>by
  induction k with
  |nil=>rfl
  |cons a r g=>simp only[cJ,ax,aI,Bool.true_and];exact g
 have h:((x::l).map iL).length<=dz:=by rw[cY];show(x::l).length<=1073741824;omega
 have i:((x::l).map iL).map fD=(x::l).map iL:=by simp[fD]
 have j:(((x::l).map iL).all pH&&ax ((x::l).map iL)&&decide (((x::l).map iL).length<=dz))=true:=by
  rw[d,e,oW h];rfl
 show gf (cN G Q 0) [.au false (iL x::l.map iL)] []=_;unfold gf;refine(ab j).trans ?_;rw[show(iL x::l.map iL)=(x::l).map iL from rfl,i,cY]
 rfl
theorem Q0{a:Type}{f:a->AV}{rest:List AV}:∀{xs:List a},chunk none xs.length (xs.map f++rest)=xs.map f
 | []=>rfl
 |x::xs=>by
  have e:=Q0 (f:=f) (rest:=rest) (xs:=xs);simp only[bX,cJ,jI,chunk,e]
variable{r:Nat}{xs:List (List Int)}
theorem Q3{fr:Bool}{st:eM}(h:ak σ b=some ⟨none,xs.map iL++List.replicate r .ae,st⟩) (d:st.eT=true) (a:u=xs.length+r):view σ false vd (.sl b u 0 xs.length)=some (bN xs):=by
 subst a;have a:upto σ b (xs.length+r)=some ⟨none,xs.map iL++List.replicate r .ae,st⟩:=by
  unfold upto;rw[h];cases st<;>simp at d ⊢
 show view σ false (11+1) _=_;unfold view;simp only[a,aE,kF,gq,Nat.mul_one];rw[ab (by simp),Q0,yj (f:=iL) (g:=iL) (v:=view σ false 11) λ_ _=>rfl]
variable{i:Int}
theorem ajM(a:0<=i) (b:i<xs.length):lQ (xs.map iL++List.replicate r AV.ae) i.toNat=some (iL (ix xs i)):=by
 rw[jM,eC (by simp;omega),fS,ko a b];rfl
theorem ajN(a:0<=i) (b:i<xs.length):(xs.map iL++List.replicate r AV.ae).set i.toNat (iL (ix xs i))=xs.map iL++List.replicate r AV.ae:=by
 rw[List.set_append,ab (by simp;omega),<-List.map_set]
 congr 2
 have:ix xs i=xs[i.toNat]:=by
  have:=aG (l:=xs) (n:=i.toNat) (by omega)
  rwa [show((i.toNat:Nat):Int)=i by omega]at this
 rw[this];exact List.set_getElem_self _
end
section
variable{f:Nat}{K:CX}(hF:QU f K)
include hF
theorem ajO (ws:List (List Int)) (l:ws ≠ []) (w:(ws.length:Int)<=1000000) (j:ox ws):L xR [.sl 0 ws.length 0 ws.length,.func f []] [Lb ws]=some (.bF [],[Lb (fk K ws)]):=by
 have m:∀x∈ws.map iL,∀y∈ws.map iL,∃u v,bS x=some u/\bS y=some v/\iE (lim G Q) f (x::y :: [])=some (.int (K u v)):=by
  intro x n y o;obtain⟨u,i,rfl⟩:=cB.1 n;obtain⟨v,p,rfl⟩:=cB.1 o;refine⟨u,v,uS u,uS v,?_⟩;have:=hF.run u v (j u i) (j v p);unfold iE;rw[ab (by simp)]
  exact this
 obtain⟨N,b⟩:=WI mU m;refine OT (N:=N) ?_;have q:0<ws.length:=l5.2 l;have i:upto [Lb ws] 0 ws.length=some (Lb ws):=by simp[upto,ak]
 have d:(ws.map iL).length<=dz:=by rw[cY];show ws.length<=1073741824;omega
 simp only[kZ,i];have r:(((ws.map iL).drop 0).take ws.length)=ws.map iL:=by rw[kF,fc (by simp)]
 rw[r];have a:((eM.live).isLive&&gv none&&decide (0<ws.length)&&decide (0+ws.length<=(ws.map iL).length)&&decide ((ws.map iL).length<=dz))=true:=by
  simp only[cY]at d ⊢;simp[q,eM.isLive,gv]
  try omega
 rw[ab a];have g:(if agree (cN G Q N) f [] aP (ws.map iL)=true then some (AV.bF [],ar [Lb ws] 0 ⟨none,putAt (ws.map iL) 0 (dP aP (ws.map iL)),.live⟩)else if agree (cN G Q N) f [] b8 (ws.map iL)=true then some (AV.bF [],ar [Lb ws] 0 ⟨none,putAt (ws.map iL) 0 (dP b8 (ws.map iL)),.live⟩)else none)=some (AV.bF [],ar [Lb ws] 0 ⟨none,putAt (ws.map iL) 0 (dP K (ws.map iL)),.live⟩):=by
  rcases hF.one with e|e
  .rw[e]at b ⊢;rw[ab b]
  .rw[e]at b ⊢
   by_cases h:agree (cN G Q N) f [] aP (ws.map iL)=true
   .rw[ab h,ajG h b]
   .rw[aa h,ab b]
 rw[g,QO];have s:putAt (ws.map iL) 0 ((fk K ws).map iL)=(fk K ws).map iL:=by
  unfold putAt;rw[List.take_zero,oQ,ji (by simp[BH])];simp
 rw[s]
theorem Q4 (a b:List Int) (d:(a.length:Int)<=1000000) (g:(b.length:Int)<=1000000):PC xS [iL a,iL b,.aV (.func f [])]=some (.bool (decide (a=b))):=by
 refine bP (ahl rfl ?_);have e:=hF.run a b d g;simp[e];exact⟨hF.ok.eq a b,λh=>by subst h;exact hF.ok.refl a⟩
theorem ajP (vs:List (List Int)) (G:vs ≠ []) (N:(vs.length:Int)<=1000000) (s:ox vs) :
  LX L AH [.sl 0 vs.length 0 vs.length,.func xS [.aV (.func f [])]] [Lb vs] (λv τ=>v = .sl 0 vs.length 0 (fE vs).length/\τ=[LB (fE vs) (vs.length-(fE vs).length)]):=by
 have E:0<vs.length:=l5.2 G;refine OU rfl ?_
 by_cases O:vs.length<2
 .simp[show(vs.length:Int)<2 by omega]
  have u:vs.length=1:=by omega
  rw[QW (by rw[u];exact QX E)];simp
 .simp[show ¬(vs.length:Int)<2 by omega]
  refine aM (λk:Int=>[(2,.int k)]) (λ_=>[Lb vs]) (λk=>1<=k/\k<=vs.length/\fX vs k.toNat=vs.take k.toNat) (λk=>(vs.length-k).toNat) 1 rfl ⟨by omega,by omega,?_⟩ λk ⟨k0,P,l⟩=>?_
  .exact QX E
  by_cases w:k<vs.length
  .have e:=Q4 hF (ix vs k) (ix vs (k-1)) (s _ (aO (by omega) w)) (s _ (aO (by omega) (by omega)))
   simp[-ag,w,show 0<=k by omega,show 0<=k-1 by omega,show k-1<(vs.length:Int)by omega,e]
   refine⟨by omega,by omega,by omega,λx=>⟨by omega,?_⟩,λx=>⟨by omega,az (k+1) rfl rfl ⟨by omega,by omega,by rw[QZ (by omega) x,l,ajJ (by omega) w]⟩ (by omega)⟩⟩
   obtain⟨k,rfl⟩:∃H : Nat,k=H :=⟨k.toNat,by omega⟩
   have I:k<vs.length:=by omega
   rw[je]at l ⊢;have g:=QY (vs:=vs) k0 x;rw[show((k:Int)+1).toNat=k+1 by omega,je,l]at g
   refine aM (λp:Nat×Nat×List (List Int)=>[(2,.int p.1),(3,.int ((p.2.1:Int)+1))]) (λp=>[Lb p.2.2]) (λp=>k+p.2.1+1<=vs.length/\p.2.2.length=vs.length/\p.1=(fX vs (k+p.2.1+1)).length/\p.1<=k+p.2.1/\p.2.2.take p.1=fX vs (k+p.2.1+1)/\∀j:Nat,k+p.2.1<=j->j<vs.length->ix p.2.2 (j:Int)=ix vs (j:Int))
    (λp=>vs.length-p.2.1) (k,0,vs) (by simp[a8]) ⟨by dsimp only;omega,rfl,by dsimp only;rw[Nat.add_zero,g];simp;omega,by dsimp only;omega,by dsimp only;rw[Nat.add_zero,g],λ_ _ _=>rfl⟩ ?_
   rintro⟨q,j,cs⟩ ⟨J,d,m,K,n,o⟩;dsimp only at J d m K n o ⊢
   by_cases M:k+j+1<vs.length
   .have u:=o (k+j+1) (by omega) M
    have F:=o (k+j) (by omega) (by omega)
    have e:=Q4 hF (ix vs ((k+j+1:Nat):Int)) (ix vs ((k+j:Nat):Int)) (s _ (aO (by omega) (by omega))) (s _ (aO (by omega) (by omega)))
    rw[<-u,<-F,show((k+j+1:Nat):Int)=(k:Int)+((j:Int)+1)by omega,show((k+j:Nat):Int)=(k:Int)+j by omega]at e
    simp[-ag,d,show(j:Int)+1<((vs.length-k:Nat):Int)by omega,e]
    have y:ix vs ((k+j+1:Nat):Int)=ix vs ((k+j:Nat):Int)->fX vs (k+(j+1)+1)=fX vs (k+j+1):=λh=>by
     have:=QY (vs:=vs) (k:=((k+j+1:Nat):Int)) (by omega) (by rw[show((k+j+1:Nat):Int)-1=((k+j:Nat):Int)by omega];exact h)
     rw[show(((k+j+1:Nat):Int)+1).toNat=k+(j+1)+1 by omega,show(((k+j+1:Nat):Int)).toNat=k+j+1 by omega]at this
     exact this
    have z:¬ix vs ((k+j+1:Nat):Int)=ix vs ((k+j:Nat):Int)->fX vs (k+(j+1)+1)=fX vs (k+j+1) ++ [ix vs ((k+j+1:Nat):Int)]:=λh=>by
     have:=QZ (vs:=vs) (k:=((k+j+1:Nat):Int)) (by omega) (by rw[show((k+j+1:Nat):Int)-1=((k+j:Nat):Int)by omega];exact h)
     rw[show(((k+j+1:Nat):Int)+1).toNat=k+(j+1)+1 by omega,show(((k+j+1:Nat):Int)).toNat=k+j+1 by omega]at this
     exact this
    rw[<-u,<-F,show((k+j+1:Nat):Int)=(k:Int)+((j:Int)+1)by omega,show((k+j:Nat):Int)=(k:Int)+j by omega]at y z
    refine⟨by omega,by omega,by omega,by omega,by omega,λh=>⟨by omega,az (q,j+1,cs) (by simp) rfl ⟨by dsimp only;omega,d,by dsimp only;rw[y h];exact m,by dsimp only;omega,by dsimp only;rw[y h];exact n,λi a b=>o i (by dsimp only at a;omega) b⟩ (by dsimp only;omega)⟩,λh=>⟨by omega,by omega,by omega,by omega,by omega,az (q+1,j+1,cs.set q (ix cs ((k:Int)+((j:Int)+1)))) (by simp) (by simp[List.map_set]) ⟨by dsimp only;omega,by simp[d],by dsimp only;rw[z h];simp;exact m,by dsimp only;omega,?_,λi a b=>?_⟩ (by dsimp only;omega)⟩⟩
    .dsimp only
     rw[z h,<-n,k8,List.take_set_of_le (aT _),List.getElem?_set_self (by omega)]
     rfl
    .dsimp only at a ⊢
     rw[yk (by omega) (by omega),aa (by omega)]
     exact o i (by omega) b
   .simp[-ag,show ¬(j:Int)+1<((vs.length-k:Nat):Int)by omega]
    have A:q<=vs.length:=by omega
    have C:k+j+1=vs.length:=by omega
    rw[C]at m n;refine⟨d,A,?_⟩;rw[ajI (B:=Lb cs) rfl (by simp[upto,ak,d]) ⟨by omega,by simp[d];omega,rfl,rfl,rfl⟩]
    have r:putAt (cs.map iL) q (dI (vs.length-q) [.ae])=(fE vs).map iL++List.replicate (vs.length-q) .ae:=by
     unfold putAt;rw[<-List.map_take,n,ji (by simp[dI,d];omega)]
     simp[dI,fE]
    have D:(fE vs).length=q:=by unfold fE;exact m.symm
    simp[r,D];omega
  .simp[w]
   rw[show k.toNat=vs.length by omega]at l
   rw[QW l];simp
theorem ajQ:L AH [.au false [],.func xS [.aV (.func f [])]] []=some (.au false [],[]):=by
 refine nU (OU rfl ?_);simp
theorem ajR (ws:List (List Int)) (y:(ws.length:Int)<=1000000) (o:ox ws):PC Fz [bN ws,.func f []]=some (bN (mf K ws)):=by
 refine bP (ahj rfl ?_)
 by_cases l:ws=[]
 .subst l
  have p:L xQ [.au false []] []=some (.au false [],[]):=OS (N:=0) rfl;have q:L xR [.au false [],.func f []] []=some (.bF [],[]):=OT (N:=0) rfl;have m:=ajQ hF;simp[p,q,m,iW];refine aM (λ_:Unit=>[]) (λ_=>[]) (λ_=>True) (λ_=>0) () rfl trivial λ_ _=>?_;simp[mf,fk,fE,fX]
 .have A:fk K ws ≠ []:=λe=>l (dM (by rw[<-BH (K:=K),e];rfl))
  have hlen:=BH (K:=K) ws;have p:=ajL ws l y;have q:=ajO hF ws l y o;obtain⟨_,_,m,rfl,rfl⟩:=dh (ajP hF (fk K ws) A (by omega) (ajK o))
  rw[hlen]at m;have s:km 0 (ws.map iL)=ws.map iL:=by
   have:∀k:List (List Int),km 0 (k.map iL)=k.map iL:=λk=>by
    induction k with
    |nil=>rfl
    |cons a r B=>simp only[cJ,km,iW,B]
   exact this ws
  simp[p,q,m,iW,gm,s];have z:=QT (fk K ws);rw[hlen]at z;have d:ox (fE (fk K ws)):=λw h=>o w (QS.1 h);show W L OI.loop _ _;have C:mf K ws=fE (fk K ws):=rfl;rw[C];generalize fE (fk K ws)=cs at *;have D:=Q3 (σ:=[LB cs (ws.length-cs.length)]) (fr:=false) (b:=0) (u:=ws.length) (xs:=cs) (r:=ws.length-cs.length) (st:=.live) rfl (by simp) (by omega)
  refine aM (λi:Int=>[(4,.int i)]) (λ_=>[LB cs (ws.length-cs.length)]) (λi=>0<=i/\i<=cs.length) (λi=>(cs.length-i).toNat) 0 rfl (by omega) λi ⟨n,i1⟩=>?_
  by_cases g:i<cs.length
  .have E:=QV (ix cs i) (d _ (aO n g))
   have x:=ajM (xs:=cs) (r:=ws.length-cs.length) n g;have j:=ajN (xs:=cs) (r:=ws.length-cs.length) n g;simp[-ag,-List.map_append,g,n,z,x,E,-Ob,↓ai5,j];exact⟨by omega,by omega,az (i+1) (by simp) rfl (by omega) (by omega)⟩
  .simp[g,D]
end
def Q5 (ws:List (List Int)) (a:(ws.length:Int)<=1000000) (b:ox ws):PC Az [bN ws]=some (bN (fZ ws)):=by
 refine bP (ahg rfl ?_);simp[ajR ajH ws a b]
structure zm (n:al) (plc:List Int):Prop where
 len:plc.length=n.accept.length
 By : ∀i:Nat,i<n.aZ.length->ix plc (ix n.aZ (i:Int))=i
variable{n:al}
theorem tL(a:n.Ok):n.rT n.aZ:=λs g=>by
 rcases rS.1 g with rfl|⟨r,h,i⟩
 .exact a.start
 .obtain⟨j,b,e⟩:=fu.1 h
  obtain⟨c,l,m⟩:=fu.1 i;have p:=a.lens;have o:=(a.row j (by omega) (by omega)).1
  have d:=a.call j c (by omega) (by omega) (by omega) (by rw[aG b,e]at o;omega)
  rw[aG b,e,aG l,m]at d;exact d
theorem H6:n.aZ.Nodup:=List.Pairwise.imp (λh=>by omega) ajj
theorem H7(a:n.Ok):1<=n.aZ.length/\n.aZ.length<=128:=by
 have b:=tL a;have e:=tF n.accept.length H6 b;have d:n.start∈n.aZ:=rS.2 (.inl rfl);have g:=List.length_pos_of_mem d;have h:=a.cP;omega
def CY (n:al) (plc:List Int):List ah:=[Zb plc,⟨some 0,[],.map [(.str (eH n.aZ),.int 0)]⟩,⟨some 16,[.int n.calls,.int n.af,.int n.aj,.int n.stack,.int n.start,bL n.accept,bN n.call,bN n.push,bN n.inner,dR n.pop,iL n.aZ,.sl 0 plc.length 0 plc.length,.sl 3 1 0 1,.cC 1,.ae,.ae],.live⟩,⟨none,[iL n.aZ],.live⟩]
theorem ajS (n:al) (a:n.Ok) (plc:List Int):L vq [.ptr 2 16 0,iL n.aZ] [Zb plc,⟨some 0,[],.map []⟩,⟨some 16,[.int n.calls,.int n.af,.int n.aj,.int n.stack,.int n.start,bL n.accept,bN n.call,bN n.push,bN n.inner,dR n.pop,iL n.aZ,.sl 0 plc.length 0 plc.length,.ae,.cC 1,.ae,.ae],.live⟩]=some (.int 0,CY n plc):=by
 refine nU (ON rfl ?_);have e:=H7 a;have d:=HW n.aZ (yr a (tL a)) (by omega)
 have b:∀x,aW 1 (.str x)=true:=λ_=>rfl;simp[-ag,d,cy,b]
 rfl
theorem ajT (n:al) (b:n.Ok):LX L GY [n.av] [] (λr τ=>∃plc,zm n plc/\r = .ptr 2 16 0/\τ=CY n plc):=by
 refine af1 rfl ?_;have x:=ajk n b;have D:=H7 b;have s:=tL b;have y:=b.cP;have d:=QV n.aZ (by omega)
 have a:=ajS n b;simp[-ag,-List.map_replicate,x];refine⟨by omega,rfl,?_⟩
 refine aM (λq:Nat×List Int=>[(3,.int q.1)]) (λq=>[Zb q.2,⟨some 0,[],.map []⟩,⟨some 16,[.int n.calls,.int n.af,.int n.aj,.int n.stack,.int n.start,bL n.accept,bN n.call,bN n.push,bN n.inner,dR n.pop,iL n.aZ,.sl 0 n.accept.length 0 n.accept.length,.ae,.cC 1,.ae,.ae],.live⟩])
  (λq=>q.1<=n.aZ.length/\q.2.length=n.accept.length/\∀j:Nat,j<q.1->ix q.2 (ix n.aZ (j:Int))=j) (λq=>n.aZ.length-q.1) (0,List.replicate n.accept.length 0) (by simp[a8,AV.cells]) ⟨by simp,by simp,λj h=>by dsimp only at h;omega⟩ ?_
 rintro⟨k,pl⟩ ⟨k0,g,i⟩;dsimp only at k0 g i ⊢
 by_cases z:k<n.aZ.length
 .have u:=s _ (aO (l:=n.aZ) (n:=(k:Int)) (by omega) (by omega))
  have m:=aB (show ix n.aZ (k:Int)<(pl.length:Int)by omega)
  have o:=aB (show ix n.aZ (k:Int)<(n.accept.length:Int)by omega)
  simp[-ag,z,u.1,m,o,g];refine⟨by omega,az (k+1,pl.set (ix n.aZ (k:Int)).toNat k) (by simp) (by simp[List.map_set]) ⟨by dsimp only;omega,by simp[g],λj A=>?_⟩ (by dsimp only;omega)⟩
  dsimp only at A ⊢;have p:=s _ (aO (l:=n.aZ) (n:=(j:Int)) (by omega) (by omega))
  rw[yk p.1 (by omega)]
  by_cases e:j=k
  .subst e;rw[ab (by omega)]
  .rw[aa,i j (by omega)]
   intro h;rw[aG (by omega),aG (by omega)]at h
   have B : n.aZ[j]=n.aZ[k]:=by
    have:=u.1;rw[aG (by omega)]at this
    omega
   exact e ((List.getElem_inj H6).1 B)
 .have C:k=n.aZ.length:=by omega
  subst C;have w : PC ts [.au false (n.aZ.map .int)]=some (iL n.aZ):=d;have a:=a pl;rw[g]at a;simp[-ag,d,a];exact⟨pl,⟨g,i⟩,rfl⟩
def ng (n:al) (plc:List Int):Vd:=⟨n,plc,[n.aZ],[],[]⟩
theorem ajU(a:n.Ok){plc:List Int}(b:zm n plc):rW (ng n plc):=by
 have l:=H7 a;refine⟨a,λk m=>?_,l.2,λs c d g o p=>?_⟩
 .have:k=n.aZ:=by simpa[ng]using m
  subst this;exact⟨tL a,rfl⟩
 .have h:ix (ix n.call s) c∈n.aZ:=by
   have q:=(a.row s d g).1;have u:=a.lens;exact rS.2 (.inr ⟨_,aO d (show s<(n.call.length:Int)by have:s<(n.accept.length:Int):=g;omega),aO o (by have:c<n.calls:=p;omega)⟩)
  have w:=tL a _ h;obtain⟨i,j,e⟩:=fu.1 h;have:=b.By i j;rw[aG j,e]at this;have r:=b.len;show ix (ix n.call s) c<(plc.length:Int)/\0<=ix plc (ix (ix n.call s) c)/\ix plc (ix (ix n.call s) c)<(n.aZ.length:Int);rw[this];omega
def p0:Tg->Nat
 |.pl=>1
 |.mp=>2
 |.v=>3
 |.ls=>4
 |.aH=>0
 |.bl=>0
 |.rw _=>0
 |.cl _ _=>0
 |.old i=>i
theorem vs0 (n:al) (plc:List Int) (A:ah):VS (ng n plc) (λi=>if i=0 then some A else none) p0 (A::(CY n plc).map (gm 1)):=by
 have g:∀l:List Int,km 1 (l.map .int)=l.map .int:=Bx;refine⟨λt B a=>?_,λt u X Y b d e=>?_,λi=>rfl⟩
 .cases t with
  |v=>
   have:B=(ng n plc).box p0:=by simpa[Vd.cont]using a.symm
   subst this;simp[CY,p0,ak,gm,km,iW,Vd.box,ng,cE]
  |pl=>
   have:B=Zb plc:=by simpa[Vd.cont,ng]using a.symm
   subst this;simp[CY,p0,ak,gm,g]
  |mp=>
   have:B=⟨some 0,[],.map (pP 0 [n.aZ])⟩:=by simpa[Vd.cont,ng]using a.symm
   subst this;simp[CY,p0,ak,gm,pP,oG,KS,km,iW]
  |ls=>
   have:B=⟨none,[iL n.aZ],.live⟩:=by simpa[Vd.cont,ng]using a.symm
   subst this;simp[CY,p0,ak,gm,km,iW]
  |aH=>simp[Vd.cont,ng]at a
  |bl=>simp[Vd.cont,ng]at a
  |rw x=>simp[Vd.cont,ng]at a
  |cl x c=>simp[Vd.cont,ng]at a
  |old i=>
   have a:(if i=0 then some A else none)=some B:=a
   split at a
   .rename_i h;subst h;exact a
   .simp at a
 .have nz:∀i,(ng n plc).cont (λi=>if i=0 then some A else none) p0 (.old i)=none\/i=0:=λi=>by
   by_cases h:i=0
   .exact .inr h
   .left;simp[Vd.cont,h]
  cases t<;>cases u<;>first
   |rfl
   |(simp[Vd.cont,ng]at b;done)
   |(simp[Vd.cont,ng]at d;done)
   |(simp[p0]at e;done)
   |(simp[p0]at e;subst e;rfl)
   |(rename_i i;rcases nz i with h|h
     .first|(rw[h]at b;simp at b;done)|(rw[h]at d;simp at d;done)
     .subst h;simp[p0]at e)
def zn (k:Int):List Int:=[k%256,(k/256)%256]
def cV (l:List Int):List Int:=l.flatMap zn
abbrev bK (a:List Int):List AV:=a.map (AV.ik 4)
variable{l:List Int}
theorem ajV{a:Int}:cV (l ++ [a])=cV l ++ [a%256,(a/256)%256]:=by simp[cV,zn]
variable{m:List Int}
theorem Q6:cV (l++m)=cV l++cV m:=by simp[cV]
theorem BI:∀l:List Int,(cV l).length=2*l.length
 | []=>rfl
 |a::l=>by
  have:=BI l;simp only[cV,zn,gX,aY,bX,dg]at this ⊢;omega
abbrev BJ (a:List Int):List ah:=[⟨none,bK a,.live⟩,⟨none,[.sl 0 a.length 0 a.length],.live⟩]
theorem yx (cls l a:List Int) (i:∀y∈l,0<=y/\y<(cls.length:Int)) (o:a ≠ []) (hlen:a.length+2*l.length<=100000000) :
  L Aw [iL l,.ptr 1 1 0,.aV (iL cls)] (BJ a)=some (.bF [],BJ (a++cV (l.map (ix cls)))):=by
 refine nU (ahe rfl ?_);simp[-ag,-List.map_append];refine aM (λk:Nat=>[(3,.int k)]) (λk=>BJ (a++cV ((l.take k).map (ix cls)))) (λk=>k<=l.length) (λk=>l.length-k) 0 (by simp[a8,cV]) (by omega) ?_
 intro k k0
 by_cases g:k<l.length
 .have h:=i _ (aO (l:=l) (n:=(k:Int)) (by omega) (by omega))
  have tk:=jm g;have d:=BI ((l.take k).map (ix cls));have b:min k l.length=k:=Nat.min_eq_left (by omega)
  simp only[cY,nw,b]at d;have j:cV ((l.take (k+1)).map (ix cls))=cV ((l.take k).map (ix cls)) ++ [ix cls (ix l (k:Int))%256,(ix cls (ix l (k:Int))/256)%256]:=by rw[tk,jK,cJ,List.map_nil,ajV]
  have e:(ix cls (ix l (k:Int))).fdiv 256=ix cls (ix l (k:Int))/256:=Int.fdiv_eq_ediv_of_nonneg _ (by omega)
  generalize cV ((l.take k).map (ix cls))=B at *;simp[-ag,-List.map_append,g,h.1,h.2];refine⟨by omega,by omega,az (k+1) (by simp) ?_ (by omega) (by omega)⟩
  rw[<-List.map_take,j,e];simp[Nat.add_assoc]
 .have m:k=l.length:=by omega
  subst m;simp[-ag,-List.map_append]
structure jr (D:Vd):Prop where
 f:Full D
 k:0<D.K.length
 c:0<=D.n.calls/\D.n.calls<=64
 n:0<=D.n.af/\D.n.af<=64
 r:0<=D.n.aj/\D.n.aj<=64
 rl:∀x:Nat,x<D.K.length->(D.row x).length=D.n.calls.toNat
 inl:∀x:Nat,x<D.K.length->(ix D.IN (x:Int)).length=D.n.af.toNat/\∀y∈ix D.IN (x:Int),0<=y/\y<(D.K.length:Int)
 qA:∀x c y:Nat,x<D.K.length->c<D.n.calls.toNat->y<D.K.length->(ix (D.bM x c) (y:Int)).length=D.n.aj.toNat/\∀z∈ix (D.bM x c) (y:Int),0<=z/\z<(D.K.length:Int)
def Vd.vD (D:Vd) (cls:List Int) (x c y:Nat):List Int:=(ix (D.bM x c) (y:Int)).map (ix cls)++(ix (D.bM y c) (x:Int)).map (ix cls)
def Vd.mg (D:Vd) (cls:List Int) (x c k:Nat):List Int:=(List.range k).flatMap λy=>D.vD cls x c y
def Vd.js (D:Vd) (cls:List Int) (x j:Nat):List Int:=ix cls (x:Int)::(ix D.IN (x:Int)).map (ix cls)++(List.range j).flatMap λc=>D.mg cls x c D.K.length
variable{D:Vd}{cls:List Int}{x k:Nat}
theorem Q7{c:Nat}:D.mg cls x c (k+1)=D.mg cls x c k++((ix (D.bM x c) (k:Int)).map (ix cls)++(ix (D.bM k c) (x:Int)).map (ix cls)):=by
 simp[Vd.mg,Vd.vD,gw]
theorem Q8{j:Nat}:D.js cls x (j+1)=D.js cls x j++D.mg cls x j D.K.length:=by
 simp[Vd.js,gw]
theorem H8{D:Vd}(h:jr D){cls:List Int}{x c:Nat}(a:x<D.K.length) (b:c<D.n.calls.toNat):∀{k:Nat},k<=D.K.length->(D.mg cls x c k).length<=k*128
 |0,_=>by simp[Vd.mg]
 |k+1,d=>by
  have:=H8 h a b (cls:=cls) (k:=k) (by omega)
  rw[Q7];have e:=(h.qA x c k a b (by omega)).1
  have g:=(h.qA k c x (by omega) b a).1
  have i:=h.r;simp only[aY,cY];omega
theorem Q9{D:Vd}(h:jr D){cls:List Int}{x:Nat}(a:x<D.K.length):∀{j:Nat},j<=D.n.calls.toNat->(D.js cls x j).length<=65+j*65536
 |0,_=>by have:=(h.inl x a).1;have:=h.n;simp[Vd.js];omega
 |j+1,b=>by
  have:=Q9 h a (cls:=cls) (j:=j) (by omega)
  rw[Q8,aY];have d:=H8 h (cls:=cls) a (c:=j) (by omega) (aT D.K.length)
  have:=h.f.k;omega
theorem ajW (D:Vd) (h:jr D) (cls:List Int) (d:cls.length=D.K.length) (x:Nat) (l:x<D.K.length):PC A1 [D.vcs.av,iL cls,.int x]=some (.au false (bK (cV (D.js cls x D.n.calls.toNat)))):=by
 refine bP (ag0 rfl ?_);have q:=h.f;have Y:=q.k;have Z:=q.i;have hfb:=q.b;have A:=h.inl x l;have Cz:=h.c;have Af:=h.n;have UD:=h.r;have C:=aB (show(x:Int)<(cls.length:Int)by omega)
 have E:=aB (show(x:Int)<(D.IN.length:Int)by omega)
 have s:=aB (show(x:Int)<(D.BL.length:Int)by omega)
 have F:=yx cls (ix D.IN (x:Int)) [ix cls (x:Int)%256,ix cls (x:Int)/256%256] (λy m=>by rw[d];exact A.2 y m) (by simp) (by simp;omega)
 have G:(ix cls (x:Int)).fdiv 256=ix cls (x:Int)/256:=Int.fdiv_eq_ediv_of_nonneg _ (by omega)
 have u : L Aw [.au false ((ix D.IN (x:Int)).map .int),.ptr 1 (aE none) 0,.aV (.au false (cls.map .int))] [⟨none,rD [.ik 4 (ix cls (x:Int)%256),.ik 4 (ix cls (x:Int)/256%256)],.live⟩,⟨none,[.sl 0 2 0 2],.live⟩]=some (.bF [],BJ (cV (D.js cls x 0))):=by
  have e:cV (D.js cls x 0)=[ix cls (x:Int)%256,ix cls (x:Int)/256%256]++cV ((ix D.IN (x:Int)).map (ix cls)):=by simp[Vd.js,cV,zn]
  rw[e];exact F
 simp[-ag,-List.map_append,C,E,s,G,u];refine aM (λc:Nat=>[(6,.int c)]) (λc=>BJ (cV (D.js cls x c))) (λc=>c<=D.n.calls.toNat) (λc=>D.n.calls.toNat-c) 0 (by simp[a8]) (by omega) ?_
 intro c c0;have ma:=Q9 h (cls:=cls) l c0
 by_cases w:c<D.n.calls.toNat
 .have o:=aB (show(c:Int)<D.n.calls by omega)
  simp[-ag,-List.map_append,o];have ez:BJ (cV (D.js cls x c))=BJ (cV (D.js cls x c++D.mg cls x c 0)):=by simp[Vd.mg]
  refine aM (λy:Nat=>[(8,.int y)]) (λy=>BJ (cV (D.js cls x c++D.mg cls x c y))) (λy=>y<=D.K.length) (λy=>D.K.length-y) 0 (by rw[<-ez];simp[a8]) (by omega) ?_
  intro y y0;have X:=H8 h (cls:=cls) l w y0
  by_cases m:y<D.K.length
  .have e0:=Q7 (D:=D) (cls:=cls) (x:=x) (c:=c) (k:=y)
   have H:=h.qA x c y l w m;have I:=h.qA y c x m w l;have J:cV (D.js cls x c++D.mg cls x c y) ≠ []:=by simp[Vd.js,cV,zn]
   have N:=BI (D.js cls x c++D.mg cls x c y);rw[aY]at N;have p:=yx cls (ix (D.bM x c) (y:Int)) (cV (D.js cls x c++D.mg cls x c y)) (λz O=>by rw[d];exact H.2 z O) J (by omega)
   rw[<-Q6]at p;have P:=BI (D.js cls x c++D.mg cls x c y++(ix (D.bM x c) (y:Int)).map (ix cls));rw[aY,aY,cY]at P;have a:=yx cls (ix (D.bM y c) (x:Int)) (cV (D.js cls x c++D.mg cls x c y++(ix (D.bM x c) (y:Int)).map (ix cls))) (λz O=>by rw[d];exact I.2 z O) (by simp[Vd.js,cV,zn]) (by omega)
   rw[<-Q6]at a;have e1:D.js cls x c++D.mg cls x c y++(ix (D.bM x c) (y:Int)).map (ix cls)++(ix (D.bM y c) (x:Int)).map (ix cls)=D.js cls x c++D.mg cls x c (y+1):=by rw[e0];simp
   rw[e1]at a;have Q:=aB (show(y:Int)<(D.BL.length:Int)by omega)
   have R:=aB (show(y:Int)<(D.K.length:Int)by omega)
   have S:=aB (show(c:Int)<((ix D.BL (x:Int)).length:Int)by have:=h.rl x l;unfold Vd.row at this;omega)
   have T:=aB (show(c:Int)<((ix D.BL (y:Int)).length:Int)by have:=h.rl y m;unfold Vd.row at this;omega)
   have U:=aB (show(y:Int)<((ix (ix D.BL (x:Int)) (c:Int)).length:Int)by have:=q.c x c l w;unfold Vd.bM Vd.row at this;omega)
   have V:=aB (show(x:Int)<((ix (ix D.BL (y:Int)) (c:Int)).length:Int)by have:=q.c y c m w;unfold Vd.bM Vd.row at this;omega)
   generalize cV (D.js cls x c++D.mg cls x c y++(ix (D.bM x c) (y:Int)).map (ix cls))=M at *;unfold Vd.bM Vd.row at p a;generalize cV (D.js cls x c++D.mg cls x c y)=B at *;simp[-ag,-List.map_append,R,Q,s,S,T,U,V,p,a];exact⟨by omega,az (y+1) (by simp) rfl (by omega) (by omega)⟩
  .have ey:y=D.K.length:=by omega
   subst ey;have e3:=Q8 (D:=D) (cls:=cls) (x:=x) (j:=c);simp[-ag,-List.map_append,m];exact⟨by omega,az (c+1) (by simp) (by rw[e3]) (by omega) (by omega)⟩
 .have ec:c=D.n.calls.toNat:=by omega
  have o:=dN (show ¬(c:Int)<D.n.calls by omega)
  simp[-ag,-List.map_append,o];have W:view (BJ (cV (D.js cls x c))) false vd (.sl 0 (cV (D.js cls x c)).length 0 (cV (D.js cls x c)).length)=some (.au false (bK (cV (D.js cls x c)))):=fj (k:=11) (f:=AV.ik 4) (g:=AV.ik 4) (st:=.live) rfl rfl rfl λ_ _=>rfl;rw[W,ec]
  rfl
def Vd.zo (D:Vd) (cls:List Int) (x:Nat):List Int:=cV (D.js cls x D.n.calls.toNat)
def Vd.iG (D:Vd) (cls:List Int):List (List Int):=(List.range D.K.length).map (D.zo cls)
theorem BK:∀{l:List Int},dx (cV l)
 | [],x,b=>by simp[cV]at b
 |a::l,x,b=>by
  simp only[cV,zn,gX,dQ,b5,List.not_mem_nil,or_false]at b;rcases b with(rfl|rfl)|b
  .omega
  .omega
  .exact BK (l:=l) x b
theorem yy:∀w:List Int,fitAll (aE none) (bK w)=true
 | []=>rfl
 |a::w=>by
  have:=yy w;simp only[bK,cJ,fitAll]at this ⊢;rw[this];rfl
theorem H9:∀w:List Int,(bK w).flatMap AV.cells=bK w
 | []=>rfl
 |a::w=>by
  have:=H9 w;simp only[bK,cJ,gX]at this ⊢;rw[this];rfl
theorem BM:∀(i:Nat) (K:List (List Int)),(pP i K).length=K.length
 |_,[]=>rfl
 |i,k::K=>by simp only[pP,bX,BM (i+1) K]
variable{α:Type}
theorem Ia{A:List α}{z v:α}(h:A.length=x):(A++List.replicate (k+1) z).set x v=A ++ [v]++List.replicate k z:=by
 subst h;rw[List.set_append,aa (by omega),Nat.sub_self]
 simp[sL]
theorem ajX (D:Vd) (h:jr D) (cls:List Int) (o:cls.length=D.K.length):PC Hc [D.vcs.av,iL cls]=some (.bF [iL (idxs (aD [] (D.iG cls)) (D.iG cls)),.int (aD [] (D.iG cls)).length]):=by
 refine bP (agx rfl ?_);have A:=h.f.k;have B:(D.iG cls).length=D.K.length:=by simp[Vd.iG]
 have g:∀x,aW 1 (.str x)=true:=λ_=>rfl;simp[-ag,-List.map_replicate];refine⟨by omega,?_⟩
 refine aM (λx:Nat=>[(2,.int x)]) (λx=>[⟨some 0,[],.map (pP 0 (aD [] ((D.iG cls).take x)))⟩,Zb (idxs (aD [] ((D.iG cls).take x)) ((D.iG cls).take x)++List.replicate (cls.length-x) 0)]) (λx=>x<=cls.length) (λx=>cls.length-x) 0 (by simp[a8,aD,idxs,pP]) (by omega) ?_
 intro x G
 by_cases H:x<cls.length
 .have u:=ajW D h cls o x (by omega)
  have tk:=jm (w:=D.iG cls) (k:=x) (by omega)
  have C:ix (D.iG cls) (x:Int)=D.zo cls x:=by
   unfold Vd.iG;rw[iT (by omega) (by simp;omega),aG (show x<(List.range D.K.length).length by simp;omega)]
   simp
  have z:=Bh (l:=D.zo cls x) BK;have E:∀k∈aD [] ((D.iG cls).take x),dx k:=BA (by simp) λv F=>by
   obtain⟨y,_,rfl⟩:=cB.1 (List.mem_of_mem_take F);exact BK
  have d:=vw (l:=D.zo cls x) BK 0 _ E;have a:=BB (K:=[]) (vs:=(D.iG cls).take x) (l:=D.zo cls x);have b:=yp (K:=[]) (vs:=(D.iG cls).take x) (l:=D.zo cls x);rw[C]at tk;have i:(idxs (aD [] ((D.iG cls).take x)) ((D.iG cls).take x)).length=x:=by simp[idxs];omega
  have j : PC A1 [D.vcs.av,iL cls,.int x]=some (.au false (bK (D.zo cls x))):=u;clear u;generalize D.zo cls x=w at *;generalize I:(D.iG cls).take x=V at *;have m:=aB (show(x:Int)<(cls.length:Int)by omega)
  by_cases n:w∈aD [] V
  .rw[ab n]at d
   have e:gL (aD [] V) w=aD [] V:=ab n;rw[e]at b;generalize p:aD [] V=q at *;simp[-ag,-List.map_append,-List.map_replicate,m,j, yy,H9,z,d,g,BM];refine⟨yy w,by omega,by omega,by omega,az (x+1) (by simp) ?_ (by omega) (by omega)⟩
   rw[b]at a;rw[<-List.map_set,tk,b,a,show cls.length-x=(cls.length-(x+1))+1 by omega,Ia (by simpa using i)]
  .rw[aa n]at d
   have e:gL (aD [] V) w=aD [] V ++ [w]:=aa n;rw[e]at b;generalize p:aD [] V=q at *;simp[-ag,-List.map_append,-List.map_replicate,m,j, yy,H9,z,d,g,BM];have r:q.idxOf w=q.length:=List.idxOf_eq_length n;refine⟨yy w,by omega,by omega,by omega,az (x+1) (by simp) ?_ (by omega) (by omega)⟩
   rw[b]at a;rw[<-List.map_set,tk,b,a,show cls.length-x=(cls.length-(x+1))+1 by omega,Ia (by simpa using i),Bz,r]
   simp
 .have ex:x=cls.length:=by omega
  subst ex;rw[fc (by omega)]
  have s:view [⟨some 0,[],.map (pP 0 (aD [] (D.iG cls)))⟩,Zb (idxs (aD [] (D.iG cls)) (D.iG cls))] false vd (.sl 1 cls.length 0 cls.length)=some (iL (idxs (aD [] (D.iG cls)) (D.iG cls))):=ow (st:=.live) rfl rfl (by simp[idxs];omega)
  simp[-ag,-List.map_append,-List.map_replicate,s,BM]
def Vd.ac (D:Vd) (st x:Int):Bool:=ix D.n.accept (ix (ix D.K x) st)
def Vd.im (D:Vd) (x i:Int):Int:=ix (ix D.IN x) i
def Vd.bk (D:Vd) (x c y r:Int):Int:=ix (ix (ix (ix D.BL x) c) y) r
inductive vE (D:Vd) (st:Int):Int->Int->Prop
 |acc (x y:Int):D.ac st x ≠ D.ac st y->vE D st x y
 |aH (x y i:Int):0<=i->i<D.n.af->vE D st (D.im x i) (D.im y i)->vE D st x y
 |bl (x y c z r:Int):0<=c->c<D.n.calls->0<=z->z<(D.K.length:Int)->0<=r->r<D.n.aj->vE D st (D.bk x c z r) (D.bk y c z r)->vE D st x y
 |br (x y c z r:Int):0<=c->c<D.n.calls->0<=z->z<(D.K.length:Int)->0<=r->r<D.n.aj->vE D st (D.bk z c x r) (D.bk z c y r)->vE D st x y
theorem Ra:∀{l m:List Int},(∀x∈l,0<=x/\x<=65535)->(∀x∈m,0<=x/\x<=65535)->cV l=cV m->l=m
 | [],[],_,_,_=>rfl
 | [],b::m,_,_,h=>by simp[cV,zn]at h
 |a::l,[],_,_,h=>by simp[cV,zn]at h
 |a::l,b::m,e,g,h=>by
  simp only[cV,zn,gX,jI,oQ,List.cons.injEq]at h;have i:=e a (by simp)
  have j:=g b (by simp)
  rw[Ra (λx d=>e x (by simp[d])) (λx d=>g x (by simp[d])) h.2.2,show a=b by omega]
theorem yz{α b:Type}{f g:α->List b}:∀{l:List α},(∀i∈l,(f i).length=(g i).length)->(l.flatMap f=l.flatMap g↔∀i∈l,f i=g i)
 | [],_=>by simp
 |a::l,h=>by
  have d:=yz (l:=l) λi j=>h i (by simp[j])
  simp only[gX,b5,forall_eq_or_imp,<-d];exact⟨λe=>List.append_inj e (h a (by simp)),λe=>by rw[e.1,e.2]⟩
theorem BN(b:l.length=m.length):l.map (ix cls)=m.map (ix cls)↔∀i:Int,0<=i->i<(l.length:Int)->ix cls (ix l i)=ix cls (ix m i):=by
 constructor
 .intro e i a i1
  have d:=iT (f:=ix cls) (l:=l) a i1;have g:=iT (f:=ix cls) (l:=m) a (by omega)
  rw[<-d,<-g,e]
 .intro h
  refine tz (by simpa using b) λi a i1=>?_
  simp at i1;rw[iT a i1,iT a (by omega)]
  exact h i a i1
structure BO (D:Vd) (cls:List Int) (x y:Int):Prop where
 e:ix cls x=ix cls y
 i:∀i,0<=i->i<D.n.af->ix cls (D.im x i)=ix cls (D.im y i)
 l:∀c z r,0<=c->c<D.n.calls->0<=z->z<(D.K.length:Int)->0<=r->r<D.n.aj->ix cls (D.bk x c z r)=ix cls (D.bk y c z r)
 r:∀c z r,0<=c->c<D.n.calls->0<=z->z<(D.K.length:Int)->0<=r->r<D.n.aj->ix cls (D.bk z c x r)=ix cls (D.bk z c y r)
variable{y:Nat}
theorem ajY(h:jr D)(m:x<D.K.length) (o:y<D.K.length):D.js cls x D.n.calls.toNat=D.js cls y D.n.calls.toNat↔BO D cls x y:=by
 have E:=(h.inl x m).1;have F:=(h.inl y o).1;have Q:=h.r;have R:=h.n;have p:∀c,c<D.n.calls.toNat->∀z,z<D.K.length->(D.vD cls x c z).length=(D.vD cls y c z).length:=λc a z b=>by
  simp only[Vd.vD,aY,cY,(h.qA x c z m a b).1,(h.qA y c z o a b).1,(h.qA z c x b a m).1,(h.qA z c y b a o).1]
 have u:∀c,c<D.n.calls.toNat->(D.mg cls x c D.K.length).length=(D.mg cls y c D.K.length).length:=λc a=>by
  simp only[Vd.mg,List.length_flatMap]
  congr 1
  exact fv λz b=>p c a z (bT.1 b)
 have G:D.js cls x D.n.calls.toNat=D.js cls y D.n.calls.toNat↔ix cls (x:Int)=ix cls (y:Int)/\(ix D.IN (x:Int)).map (ix cls)=(ix D.IN (y:Int)).map (ix cls)/\∀c∈List.range D.n.calls.toNat,D.mg cls x c D.K.length=D.mg cls y c D.K.length:=by
  rw[<-yz λc a=>u c (bT.1 a)];unfold Vd.js;simp only[jI,List.cons.injEq];exact⟨λe=>⟨e.1,List.append_inj e.2 (by simp;omega)⟩,λe=>⟨e.1,by rw[e.2.1,e.2.2]⟩⟩
 have B:∀c,c<D.n.calls.toNat->(D.mg cls x c D.K.length=D.mg cls y c D.K.length↔∀z∈List.range D.K.length,D.vD cls x c z=D.vD cls y c z):=λc a=>yz λz b=>p c a z (bT.1 b);have C:∀c,c<D.n.calls.toNat->∀z,z<D.K.length->(D.vD cls x c z=D.vD cls y c z↔(∀r,0<=r->r<D.n.aj->ix cls (D.bk x c z r)=ix cls (D.bk y c z r))/\∀r,0<=r->r<D.n.aj->ix cls (D.bk z c x r)=ix cls (D.bk z c y r)):=λc a z b=>by
  have H:=(h.qA x c z m a b).1;have S:=(h.qA y c z o a b).1;have I:=(h.qA z c x b a m).1;have T:=(h.qA z c y b a o).1;have w:D.vD cls x c z=D.vD cls y c z↔(ix (D.bM x c) (z:Int)).map (ix cls)=(ix (D.bM y c) (z:Int)).map (ix cls)/\(ix (D.bM z c) (x:Int)).map (ix cls)=(ix (D.bM z c) (y:Int)).map (ix cls):=by
   unfold Vd.vD;exact⟨λe=>List.append_inj e (by simp;omega),λe=>by rw[e.1,e.2]⟩
  rw[w,BN (by omega),BN (by omega),H,I,show((D.n.aj.toNat:Nat):Int)=D.n.aj by omega]
  exact Iff.rfl
 rw[G];constructor
 .rintro⟨w,J,L⟩
  have q:=λc a z b=>(C c a z b).1 ((B c a).1 (L c (bT.2 a)) z (bT.2 b));refine⟨w,λi A i1=>(BN (by omega)).1 J i A (by omega),λc z r M N O P d j=>?_,λc z r M N O P d j=>?_⟩
  .have:=(q c.toNat (by omega) z.toNat (by omega)).1 r d j
   rwa [show((c.toNat:Nat):Int)=c by omega,show((z.toNat:Nat):Int)=z by omega]at this
  .have:=(q c.toNat (by omega) z.toNat (by omega)).2 r d j
   rwa [show((c.toNat:Nat):Int)=c by omega,show((z.toNat:Nat):Int)=z by omega]at this
 .intro g
  refine⟨g.e,(BN (by omega)).2 λi A i1=>g.i i A (by omega),λc a=>?_⟩
  have s :=bT.1 a;refine(B c s).2 λz b=>(C c s z (bT.1 b)).2 ⟨λr d j=>g.l c z r (by omega) (by omega) (by omega) (by have:=bT.1 b;omega) d j,λr d j=>g.r c z r (by omega) (by omega) (by omega) (by have:=bT.1 b;omega) d j⟩
theorem ajZ{K:List (List Int)}{a b:List Int}(d:a∈K) (e:b∈K) (h:K.idxOf a=K.idxOf b):a=b:=by
 have g:=List.idxOf_lt_length_of_mem d;have i:=List.idxOf_lt_length_of_mem e;have j:=List.getElem_idxOf g;have l:=List.getElem_idxOf i;rw[<-j,<-l]
 congr 1
variable{vs:List (List Int)}
theorem Rb{K:List (List Int)}(a:x<vs.length):ix (idxs K vs) (x:Int)=((K.idxOf (ix vs (x:Int)):Nat):Int):=by
 unfold idxs;rw[iT (by omega) (by omega)]
theorem aj0(a:x<vs.length) (b:y<vs.length):ix (idxs (aD [] vs) vs) (x:Int)=ix (idxs (aD [] vs) vs) (y:Int)↔ix vs (x:Int)=ix vs (y:Int):=by
 rw[Rb a,Rb b];have d:ix vs (x:Int)∈aD [] vs:=rV (.inl (aO (by omega) (by omega)))
 have g:ix vs (y:Int)∈aD [] vs:=rV (.inl (aO (by omega) (by omega)))
 exact⟨λe=>ajZ d g (by omega),λe=>by rw[e]⟩
theorem Rc:∀(n:Nat) (vs:List (List Int)),vs.length=n->Can (idxs (aD [] vs) vs) (aD [] vs).length
 |0,vs,h=>by
  have:vs=[]:=dM h;subst this;exact Can.nil
 |n+1,vs,h=>by
  have a:vs ≠ []:=by intro e;subst e;simp at h
  obtain⟨d,v,rfl⟩:∃d v,vs=d ++ [v]:=⟨vs.dropLast,vs.getLast a,(List.dropLast_concat_getLast a).symm⟩;have g:=Rc n d (by simpa using h)
  rw[BB,yp]
  by_cases b:v∈aD [] d
  .rw[show gL (aD [] d) v=aD [] d from ab b]
   exact g.old (by omega) (by have:=List.idxOf_lt_length_of_mem b;omega)
  .rw[show gL (aD [] d) v=aD [] d ++ [v]from aa b,List.idxOf_eq_length b,aY]
   exact g.new
theorem Can.put{c:List Int}{v:Nat}(h:Can c k) (U:v<=k):Can (c ++ [(v:Int)]) (max k (v+1)):=by
 by_cases e:v<k
 .rw[show max k (v+1)=k by omega]
  exact h.old (by omega) (by omega)
 .have:v=k:=by omega
  subst this;rw[show max v (v+1)=v+1 by omega]
  exact h.new
structure BP (D:Vd) (st:Int) (cls:List Int) (k:Nat):Prop where
 can:Can cls k
 len:cls.length=D.K.length
 sep:∀x y:Nat,x<D.K.length->y<D.K.length->ix cls (x:Int) ≠ ix cls (y:Int)->vE D st x y
 ac:∀x y:Nat,x<D.K.length->y<D.K.length->ix cls (x:Int)=ix cls (y:Int)->D.ac st x=D.ac st y
theorem Re(a:x<D.K.length):ix (D.iG cls) (x:Int)=D.zo cls x:=by
 unfold Vd.iG;rw[iT (by omega) (by simp;omega),aG (show x<(List.range D.K.length).length by simp;omega)]
 simp
theorem Rg(h:jr D)(d:Can cls k) (o:cls.length=D.K.length)(e:x<D.K.length):∀v∈D.js cls x D.n.calls.toNat,0<=v/\v<=65535:=by
 have p:=d.len;have q:=h.f.k;have key:∀l:List Int,(∀y∈l,0<=y/\y<(D.K.length:Int))->∀v∈l.map (ix cls),0<=v/\v<=65535:=λl g v a=>by
  obtain⟨y,j,rfl⟩:=cB.1 a;have m:=g y j;have:=d.fb _ (aO (l:=cls) m.1 (by omega))
  omega
 intro v a;simp only[Vd.js,Vd.mg,Vd.vD,jI,b5,dQ,qh,bT]at a;rcases a with rfl|a|⟨c,b, z,i,a|a⟩
 .have:=d.fb _ (aO (l:=cls) (n:=(x:Int)) (by omega) (by omega));omega
 .exact key _ (h.inl x e).2 v a
 .exact key _ (h.qA x c z e b i).2 v a
 .exact key _ (h.qA z c x i b e).2 v a
theorem BQ(h:jr D)(d:Can cls k) (g:cls.length=D.K.length)(a:x<D.K.length) (b:y<D.K.length):ix (idxs (aD [] (D.iG cls)) (D.iG cls)) (x:Int)=ix (idxs (aD [] (D.iG cls)) (D.iG cls)) (y:Int)↔BO D cls x y:=by
 have i:(D.iG cls).length=D.K.length:=by simp[Vd.iG]
 rw[aj0 (by omega) (by omega),Re a,Re b,<-ajY h a b]
 exact⟨λe=>Ra (Rg h d g a) (Rg h d g b) e,λe=>by unfold Vd.zo;rw[e]⟩
variable{st:Int}
theorem vE.of(h:jr D)(hc:BP D st cls k)(hx:x<D.K.length) (hy:y<D.K.length) (hn:¬BO D cls x y):vE D st x y:=by
 have key:∀a b:Int,0<=a->a<(D.K.length:Int)->0<=b->b<(D.K.length:Int)->ix cls a ≠ ix cls b->vE D st a b:=λa b a0 a1 b0 b1 hab=>by
  have:=hc.sep a.toNat b.toNat (by omega) (by omega)
  rw[show((a.toNat:Nat):Int)=a by omega,show((b.toNat:Nat):Int)=b by omega]at this
  exact this hab
 have UE:∀x:Nat,x<D.K.length->∀i,0<=i->i<D.n.af->0<=D.im x i/\D.im x i<(D.K.length:Int):=λx hx i i0 i1=>by
  have:=h.inl x hx;exact this.2 _ (aO i0 (by omega))
 have V:∀x z:Nat,x<D.K.length->z<D.K.length->∀c r,0<=c->c<D.n.calls->0<=r->r<D.n.aj->0<=D.bk x c z r/\D.bk x c z r<(D.K.length:Int):=λx z hx hz c r c0 c1 r0 r1=>by
  have:=h.qA x c.toNat z hx (by omega) hz
  unfold Vd.bM Vd.row at this;rw[show((c.toNat:Nat):Int)=c by omega]at this
  exact this.2 _ (aO r0 (by omega))
 refine cZ λU=>hn ⟨cZ λe=>U (hc.sep x y hx hy e),λi i0 i1=>cZ λe=>U ?_,λc z r c0 c1 z0 z1 r0 r1=>cZ λe=>U ?_,λc z r c0 c1 z0 z1 r0 r1=>cZ λe=>U ?_⟩
 .have a:=UE x hx i i0 i1
  have b:=UE y hy i i0 i1;exact .aH _ _ i i0 i1 (key _ _ a.1 a.2 b.1 b.2 e)
 .have a:=V x z.toNat hx (by omega) c r c0 c1 r0 r1
  have b:=V y z.toNat hy (by omega) c r c0 c1 r0 r1
  rw[show((z.toNat:Nat):Int)=z by omega]at a b
  exact .bl _ _ c z r c0 c1 z0 z1 r0 r1 (key _ _ a.1 a.2 b.1 b.2 e)
 .have a:=V z.toNat x (by omega) hx c r c0 c1 r0 r1
  have b:=V z.toNat y (by omega) hy c r c0 c1 r0 r1
  rw[show((z.toNat:Nat):Int)=z by omega]at a b
  exact .br _ _ c z r c0 c1 z0 z1 r0 r1 (key _ _ a.1 a.2 b.1 b.2 e)
theorem BP.next(h:jr D)(U:BP D st cls k):BP D st (idxs (aD [] (D.iG cls)) (D.iG cls)) (aD [] (D.iG cls)).length:=by
 have hsl:(D.iG cls).length=D.K.length:=by simp[Vd.iG]
 refine⟨Rc _ _ rfl,by simp[idxs,hsl],λx y hx V e=>?_,λx y hx V e=>?_⟩
 .exact vE.of h U hx V λg=>e ((BQ h U.can U.len hx V).2 g)
 .exact U.ac x y hx V ((BQ h U.can U.len hx V).1 e).e
structure UF (D:Vd) (st:Int) (cls:List Int) (k:Nat):Prop where
 c:BP D st cls k
 Ib:∀x y:Nat,x<D.K.length->y<D.K.length->ix cls (x:Int)=ix cls (y:Int)->BO D cls x y
theorem BP.stop(h:jr D)(U:BP D st cls k):((aD [] (D.iG cls)).length=k->UF D st cls k)/\k<=(aD [] (D.iG cls)).length:=by
 have V:=U.next h
 have hl:=U.len;have CH:=V.len;have:=V.can.ref U.can (by omega) λi j hi hj e=>((BQ h U.can U.len (by omega) (by omega)).1 e).e
 rcases this with⟨e1,e2⟩|cL
 .exact⟨λ_=>⟨U,λx y hx hy e=>(BQ h U.can U.len hx hy).1 (by rw[e1];exact e)⟩,by omega⟩
 .exact⟨λe=>by omega,by omega⟩
def Vd.ij (D:Vd):Int:=ix D.plc D.n.start
def Vd.f0 (D:Vd) (x:Nat):Nat:=if D.ac D.ij (x:Int)=D.ac D.ij 0 then 0 else 1
def Vd.cn (D:Vd):Nat->Nat
 |0=>0
 |x+1=>max (D.cn x) (D.f0 x+1)
def Vd.fs (D:Vd) (x:Nat):List Int:=(List.range x).map λy=>((D.f0 y:Nat):Int)
theorem Rh:D.fs (x+1)=D.fs x ++ [((D.f0 x:Nat):Int)]:=by simp[Vd.fs,gw]
theorem BR:(D.fs x).length=x:=by simp[Vd.fs]
theorem CZ:D.f0 x<=1:=by unfold Vd.f0;split<;>omega
theorem Ri{D:Vd}:∀x:Nat,Can (D.fs x) (D.cn x)/\(0<x->1<=D.cn x)/\D.cn x<=2
 |0=>⟨Can.nil,by omega,by simp[Vd.cn]⟩
 |x+1=>by
  obtain⟨a,b,g⟩:=Ri (D:=D) x;have h:=CZ (D:=D) (x:=x);have d:D.f0 x<=D.cn x:=by
   by_cases e:x=0
   .subst e;simp[Vd.f0]
   .have:=b (by omega);omega
  rw[Rh];refine⟨a.put d,λ_=>?_,?_⟩
  .show 1<=max (D.cn x) (D.f0 x+1);omega
  .show max (D.cn x) (D.f0 x+1)<=2;omega
theorem BS{f:Nat}{args:List AV}{g:α->AV}{R:α->Prop}(h:LX L f args [] (λr τ=>∃a,bV τ false r=some (g a)/\R a)):∃a,PC f args=some (g a)/\R a:=by
 obtain⟨r,τ,b,a,d,e⟩:=dh h;refine⟨a,?_,e⟩;unfold PC wj;rw[b];exact d
theorem aj1 (D:Vd) (h:jr D) (Y:rW D) (m:D.n.start<(D.plc.length:Int)) (a:0<=D.ij/\D.ij<(D.n.aZ.length:Int)) :
  LX L AN [D.vcs.av] [] (λr τ=>∃q:List Int×Nat,bV τ false r=some (.bF [iL q.1,.int q.2])/\UF D D.ij q.1 q.2):=by
 refine af3 rfl ?_;have hfk:=h.f.k;have o:=Y.ok.start;have O:=h.k;have P:∀x:Nat,x<D.K.length->D.ij<((ix D.K (x:Int)).length:Int)/\0<=ix (ix D.K (x:Int)) D.ij/\ix (ix D.K (x:Int)) D.ij<(D.n.accept.length:Int):=λx d=>by
  have:=Y.kx d;have p:D.ij<((ix D.K (x:Int)).length:Int):=by rw[this.2];exact a.2
  exact⟨p,this.1 _ (aO a.1 p)⟩
 unfold Vd.ij at a P;have s:=P 0 O;have z:=aB (show 0<(D.K.length:Int)by omega)
 rw[show((0:Nat):Int)=0 from rfl]at s;simp[-ag,-List.map_replicate,o.1,m];refine⟨by omega,?_⟩
 refine aM (λx:Nat=>[(1,.int x),(8,.int (D.cn x))]) (λx=>[Zb (D.fs x++List.replicate (D.K.length-x) 0)]) (λx=>x<=D.K.length) (λx=>D.K.length-x) 0 (by simp[a8,Vd.cn,Vd.fs]) (by omega) ?_
 intro x x0;have Q:=Ri (D:=D) x
 by_cases d:x<D.K.length
 .have B:=P x d
  have C:(ix D.n.accept (ix (ix D.K (x:Int)) (ix D.plc D.n.start))=ix D.n.accept (ix (ix D.K 0) (ix D.plc D.n.start)))=(D.f0 x=0):=by
   apply propext;unfold Vd.f0 Vd.ac Vd.ij
   by_cases e:ix D.n.accept (ix (ix D.K (x:Int)) (ix D.plc D.n.start))=ix D.n.accept (ix (ix D.K 0) (ix D.plc D.n.start))
   .simp[e]
   .simp[e]
  have M:=Rh (D:=D) (x:=x);have p:=BR (D:=D) (x:=x);have g:D.cn (x+1)=max (D.cn x) (D.f0 x+1):=rfl;have hr:D.K.length-x=(D.K.length-(x+1))+1:=by omega
  have Z:ix (D.fs x++List.replicate (D.K.length-(x+1)+1) 0) (x:Int)=0:=by
   rw[aG (by simp;omega),List.getElem_append_right (by omega)];simp
  have E:(D.fs x++List.replicate (D.K.length-(x+1)+1) 0).set x 1=D.fs x ++ [1]++List.replicate (D.K.length-(x+1)) 0:=Ia p;have R:ix (D.fs x ++ [1]++List.replicate (D.K.length-(x+1)) 0) (x:Int)=1:=by
   rw[aG (by simp;omega),List.getElem_append_left (by simp;omega),List.getElem_append_right (by omega)];simp[p]
  have F:List.replicate (D.K.length-(x+1)+1) (0:Int)=[0]++List.replicate (D.K.length-(x+1)) 0:=by rw[sL];rfl
  have hf1:=CZ (D:=D) (x:=x);generalize D.fs x=A at *;generalize hcx:D.cn x=k at *;rw[hr]
  by_cases S:D.f0 x=0
  .rw[S]at M g
   simp[-ag,-List.map_append,-List.map_replicate,d,B,s,o.1,m,a.1,z,C,S,Z,p];have u:A++List.replicate (D.K.length-(x+1)+1) (0:Int)=A ++ [((0:Nat):Int)]++List.replicate (D.K.length-(x+1)) 0:=by rw[F];simp
   exact⟨by omega,by omega,by omega,az (x+1) (by rw[g];simp;omega) (by rw[M,u]) (by omega) (by omega)⟩
  .have T:D.f0 x=1:=by omega
   rw[T]at M g;have Ic:((A++List.replicate (D.K.length-(x+1)+1) 0).map AV.int).set x (AV.int 1)=(A ++ [1]++List.replicate (D.K.length-(x+1)) 0).map AV.int:=by rw[<-List.map_set,E]
   have G:A++(List.replicate (D.K.length-(x+1)+1) (0:Int)).set 0 1=A ++ [1]++List.replicate (D.K.length-(x+1)) 0:=by rw[sL];simp
   simp[-ag,-List.map_append,-List.map_replicate,-List.append_assoc,d,B,s,o.1,m,a.1,z,C,S,Z,p,G,R];exact⟨by omega,by omega,by omega,by omega,by omega,az (x+1) (by rw[g];simp;omega) (by rw[M];simp) (by omega) (by omega)⟩
 .have ex:x=D.K.length:=by omega
  subst ex;rw[Nat.sub_self,List.replicate_zero,List.append_nil];simp[-ag];refine yq (b:=0) (l:=D.fs D.K.length) ?_ (by simp) BR.symm ?_
  .unfold bG
   rw[aa λe=>by have:=BR (D:=D) (x:=D.K.length);rw[e]at this;simp at this;omega]
  have h0:BP D D.ij (D.fs D.K.length) (D.cn D.K.length):=by
   have i:∀x:Nat,x<D.K.length->ix (D.fs D.K.length) (x:Int)=((D.f0 x:Nat):Int):=λx d=>by
    unfold Vd.fs;rw[iT (by omega) (by simp;omega),aG (show x<(List.range D.K.length).length by simp;omega)]
    simp
   refine⟨Q.1,BR,λx y d U e=>?_,λx y d U e=>?_⟩
   .rw[i x d,i y U]at e
    refine .acc _ _ λu=>e ?_;unfold Vd.f0;rw[u]
   .rw[i x d,i y U]at e
    unfold Vd.f0 at e
    by_cases V:D.ac D.ij (x:Int)=D.ac D.ij 0<;>by_cases u:D.ac D.ij (y:Int)=D.ac D.ij 0
    .rw[V,u]
    .simp[V,u]at e
    .simp[V,u]at e
    .cases h1:D.ac D.ij (x:Int)<;>cases h2:D.ac D.ij (y:Int)<;>cases h3:D.ac D.ij 0<;>simp_all
  simp[-ag];refine aM (λq:Bool×List Int×Nat=>[(1,if q.1 then .int D.K.length else .aF),(2,if q.1 then .int D.K.length else .aF),(3,if q.1 then bN D.K else .aF),(5,if q.1 then .int (ix D.plc D.n.start)else .aF),(6,.au (q.1 && !decide (D.fs D.K.length=[])) (q.2.1.map .int)),(8,.int q.2.2)]) (λ_=>ar [Zb (D.fs D.K.length)] 0 ⟨none,(D.fs D.K.length).map .int,.dead⟩) (λq=>BP D D.ij q.2.1 q.2.2) (λq=>D.K.length+1-q.2.2) (true,D.fs D.K.length,D.cn D.K.length) (by simp[a8]) h0 ?_
  rintro⟨b,cls,k⟩ N;dsimp only at N ⊢;have j:=ajX D h cls N.len;obtain⟨H, ao7⟩:=N.stop h;have W:=N.next h
  have X:=W.can.len;rw[W.len]at X;generalize idxs (aD [] (D.iG cls)) (D.iG cls)=I at *;generalize (aD [] (D.iG cls)).length=J at *
  by_cases hk:J=k
  .have w :=aB (show(J:Int)=(k:Int)by omega)
   simp[-ag,j,w];exact⟨cls,J,⟨rfl,rfl⟩,by rw[hk];exact H hk⟩
  .have w :=dN (show ¬(J:Int)=(k:Int)by omega)
   simp[-ag,j,w];exact az (false,I,J) (by simp) rfl W (by dsimp only;omega)
theorem aj2 (D:Vd) (h:jr D) (d:rW D) (a:D.n.start<(D.plc.length:Int)) (b:0<=D.ij/\D.ij<(D.n.aZ.length:Int)) :
  ∃q:List Int×Nat,PC AN [D.vcs.av]=some (.bF [iL q.1,.int q.2])/\UF D D.ij q.1 q.2:=BS (g:=λq:List Int×Nat=>.bF [iL q.1,.int q.2]) (aj1 D h d a b)
end Ab
