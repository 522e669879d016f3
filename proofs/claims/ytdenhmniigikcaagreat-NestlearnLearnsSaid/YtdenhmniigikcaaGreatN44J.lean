/- Blocks of numbers; stores: blocks behind others, blocks that are put, rows that lie somewhere; and what it leans on. Condition: none. -/
import Derived.Test.YtdenhmniigikcaaGreatBfsOrd
import Derived.Test.YtdenhmniigikcaaGreatFrz
import Derived.Test.YtdenhmniigikcaaGreatKey
import Derived.Test.YtdenhmniigikcaaGreatN43Word
set_option linter.all false
set_option maxRecDepth 100000
set_option maxHeartbeats 4000000
open Option renaming some->aa,none->ab
open Bool renaming true->ad,false->ae
open List renaming range->af,replicate->ag,length->ah
open Int renaming toNat->aj
namespace Ab
abbrev Zb (vs:ak):aO:=⟨ab,vs.map .int,.live⟩
def bE:∀(σ:aq) (i:Nat),aQ σ i=σ[i]?
 | [],i=>by simp[aQ]
 |x::r,0=>rfl
 |x::r,i+1=>by simp[aQ,bE r i]
def sE:∀(σ:aq) (i:Nat) (B:aO),aV σ i B=σ.set i B
 | [],i,B=>by simp[aV]
 |x::r,0,B=>rfl
 |x::r,i+1,B=>by simp[aV,sE r i B]
def B9{n:Nat}:∀l:ak,lR n (l.map .int)=l.map .int
 | []=>rfl
 |x::l=>by simp only[da,lR,iz,B9 l]
variable{i:Nat}{B:aO}
def cX{Q:aq}(h:aQ Q i=aa B):i<ah Q:=by
 rw[bE]at h;exact(dp.1 h).1
variable{r:aq}
def iu{Q:aq}(h:aQ Q i=aa B):aQ (Q++r) i=aa B:=by
 have:=cX h;rw[bE]at h ⊢;rw[dq this];exact h
def gZ{Q:aq}:aQ (Q++B::r) (ah Q)=aa B:=by rw[bE];simp
variable{A:aO}
def LP{Q:aq}:aQ (Q++A::B::r) (ah Q+1)=aa B:=by rw[bE];simp
def am0{Q:aq}{C:aO}:aQ (Q++A::B::C::r) (ah Q+2)=aa C:=by rw[bE];simp
def cV{Q:aq}:ah (aV Q i B)=ah Q:=by rw[sE];simp
def cQ{Q:aq}(h:i<ah Q):aQ (aV Q i B) i=aa B:=by
 rw[bE,sE,List.getElem?_set,aD rfl,aD h]
def bu{Q:aq}{j:Nat}(h:i ≠ j):aQ (aV Q i B) j=aQ Q j:=by
 rw[bE,bE,sE,List.getElem?_set,aC h]
structure am1 (σ:aq) (b:Nat) (Fl : Nat->Nat) (l:al):Prop where
 tab:aQ σ b=aa ⟨ab,(af (ah l)).map λ(j:Nat)=>AV.sl (Fl j) (ah (ix l (j:Int))) 0 (ah (ix l (j:Int))),.live⟩
 row:∀j:Nat,j<ah l->aQ σ (Fl j)=aa (Zb (ix l (j:Int)))
variable{σ:aq}{b u:Nat}
def am2{vars env:ao}{x:Rf}{z:ao}{k:Option Nat}{a:aq}{K:ao->aq->aq->Prop}{off len:Nat}(d:rv vars env x = .sl b u off len) (e:upto σ b u=aa B) (g:0<len/\off+len*ba k<=ah B.cells/\ba B.k=ba k/\ah z=ba k/\B.st.isLive=ad):cG L vars (.xF x z k) ae env a σ K=K (.aW::env) [] (aV σ b ⟨B.k,putAt B.cells off (fx len z),B.st⟩):=by
 show bA (gS L σ (rv vars env) (.xF x z k)) (λp=>K (p.1::env) [] p.2)=_;simp only[gS,d,e];rw[aD g];rfl
def hU (l:ak):Nat->ak
 |0=>[]
 |n+1=>if 0<n/\ix l (n:Int)=ix l ((n:Int)-1)then hU l n else hU l n ++ [ix l (n:Int)]
def ja (l:ak):ak:=hU l (ah l)
def LQ{l:ak}:∀{n:Nat}{w:Int},n<=ah l->(w∈hU l n↔∃j:Int,0<=j/\j<n/\ix l j=w)
 |0,w,_=>by simp[hU];intro j;omega
 |n+1,w,h=>by
  have g:=λw=>LQ (l:=l) (n:=n) (w:=w) ax
  unfold hU;split
  .rename_i i
   rw[g];constructor
   .rintro⟨j,a,b,e⟩;exact⟨j,a,ax,e⟩
   .rintro⟨j,a,b,e⟩
    by_cases d:j=(n:Int)
    .subst d;exact⟨(n:Int)-1,ax,ax,by rw[<-i.2];exact e⟩
    .exact⟨j,a,ax,e⟩
  .rw[dI,g]
   constructor
   .rintro(⟨j,a,b,e⟩|e)
    .exact⟨j,a,ax,e⟩
    .simp at e;exact⟨n,ax,ax,e.symm⟩
   .rintro⟨j,a,b,e⟩
    by_cases d:j=(n:Int)
    .subst d;right;simp[e]
    .left;exact⟨j,a,ax,e⟩
def am3{l:ak}{w:Int}:w∈ja l↔w∈l:=by
 unfold ja;rw[LQ (bG _)];constructor
 .rintro⟨j,a,b,rfl⟩;exact bh a b
 .intro h
  obtain⟨j,d,e⟩:=fY.1 h;exact⟨j,ax,ax,by rw[bt d,e]⟩
def UD (l:ak):∀n,ah (hU l n)<=n
 |0=>by simp[hU]
 |n+1=>by
  have:=UD l n;unfold hU;split
  .omega
  .simp;omega
def UE{l:ak}(g:l.Pairwise (·<=·)):∀{n:Nat},n<=ah l->(hU l n).Pairwise (·< ·)
 |0,_=>by simp[hU]
 |n+1,h=>by
  have m:=UE g (n:=n) ax
  unfold hU;split
  .exact m
  .rename_i q
   rw[List.pairwise_append];refine⟨m,aA,λa r b o=>?_⟩
   simp at o;subst o;obtain⟨j,w,x,rfl⟩:=(LQ ax).1 r
   have le:∀i k:Nat,i<=k->k<ah l->ix l (i:Int)<=ix l (k:Int):=λi k d p=>by
    rcases Nat.lt_or_eq_of_le d with d|d
    .rw[bt ax,bt p]
     exact rI.1 g i k ax p d
    .subst d;omega
   have s:=le (aj j) (n-1) ax ax
   have u:=le (n-1) n ax ax
   rw[show((aj j:Nat):Int)=j by omega,show((n-1:Nat):Int)=(n:Int)-1 by omega]at s
   rw[show((n-1:Nat):Int)=(n:Int)-1 by omega]at u
   have y:ix l (n:Int) ≠ ix l ((n:Int)-1):=λe=>q ⟨ax,e⟩
   omega
variable{vs:ak}
def UF(h:hU vs (ah vs)=vs.take (ah vs)):ja vs=vs:=by unfold ja;rw[h,List.take_length]
theorem UG(h:0<ah vs):hU vs 1=vs.take 1:=by
 match vs,h with
 |x::r,_=>rfl
variable{k:Int}
def UH(k0:1<=k) (h:ix vs k=ix vs (k-1)):hU vs (aj (k+1))=hU vs (aj k):=by
 rw[show(aj (k+1))=aj k+1 by omega]
 conv=>lhs;unfold hU
 rw[aD ⟨ax,by rw[show((aj k:Nat):Int)=k by omega];exact h⟩]
def UI(k0:1<=k) (h:¬ix vs k=ix vs (k-1)):hU vs (aj (k+1))=hU vs (aj k) ++ [ix vs k]:=by
 rw[show(aj (k+1))=aj k+1 by omega]
 conv=>lhs;unfold hU
 rw[aC (λ⟨_,e⟩=>h (by rwa [show((aj k:Nat):Int)=k by omega]at e)),show((aj k:Nat):Int)=k by omega]
def am4(a:0<=k) (b:k<ah vs):vs.take (aj (k+1))=vs.take (aj k) ++ [ix vs k]:=by
 rw[show(aj (k+1))=aj k+1 by omega,pE,mf a b];rfl
abbrev ZB (vs:ak) (r:Nat):aO:=⟨ab,vs.map .int++ag r (.int 0),.live⟩
def am5 (vs:ak) (D:vs ≠ []) (M:(ah vs:Int)<=1000000) :
  LX L K8 [.sl 0 (ah vs) 0 (ah vs)] [Zb vs] (λv τ=>v = .sl 0 (ah vs) 0 (ah (ja vs))/\τ=[ZB (ja vs) (ah vs-ah (ja vs))]):=by
 have C:0<ah vs:=nc.2 D;refine akK rfl ?_
 by_cases N:ah vs<2
 .simp[show(ah vs:Int)<2 by omega]
  have r:ah vs=1:=ax
  rw[UF (by rw[r];exact UG C)];simp
 .simp[show ¬(ah vs:Int)<2 by omega]
  refine bB (λk:Int=>[(1,.int k)]) (λ_=>[Zb vs]) (λk=>1<=k/\k<=ah vs/\hU vs (aj k)=vs.take (aj k)) (λk=>aj (ah vs-k)) 1 rfl ⟨ax,ax,?_⟩ λk ⟨E,O,g⟩=>?_
  .exact UG C
  by_cases s:k<ah vs
  .simp[-aK,s,show 0<=k by omega,show 0<=k-1 by omega,show k-1<(ah vs:Int)by omega]
   refine⟨ax,ax,ax,λu=>⟨ax,?_⟩,λu=>⟨ax,a8 (k+1) rfl rfl ⟨ax,ax,by rw[UI ax u,g,am4 ax s]⟩ ax⟩⟩
   obtain⟨k,rfl⟩:∃F : Nat,k=F :=⟨aj k,ax⟩
   have G:k<ah vs:=ax
   rw[jT]at g ⊢;have e:=UH (vs:=vs) E u;rw[show(aj ((k:Int)+1))=k+1 by omega,jT,g]at e
   refine bB (λp:Nat×Nat×ak=>[(1,.int p.1),(2,.int ((p.2.1:Int)+1))]) (λp=>[Zb p.2.2]) (λp=>k+p.2.1+1<=ah vs/\ah p.2.2=ah vs/\p.1=ah (hU vs (k+p.2.1+1))/\p.1<=k+p.2.1/\p.2.2.take p.1=hU vs (k+p.2.1+1)/\∀j:Nat,k+p.2.1<=j->j<ah vs->ix p.2.2 (j:Int)=ix vs (j:Int))
    (λp=>ah vs-p.2.1) (k,0,vs) bS ⟨aR,rfl,by dsimp only;rw[Nat.add_zero,e];simp;omega,aR,by dsimp only;rw[Nat.add_zero,e],λ_ _ _=>rfl⟩ ?_
   rintro⟨q,j,cs⟩ ⟨H,d,l,I,m,n⟩;dsimp only at H d l I m n ⊢
   by_cases J:k+j+1<ah vs
   .have r:=n (k+j+1) ax J
    have K:=n (k+j) ax ax
    have w:ix vs ((k+j+1:Nat):Int)=ix vs ((k+j:Nat):Int)->hU vs (k+(j+1)+1)=hU vs (k+j+1):=λh=>by
     have:=UH (vs:=vs) (k:=((k+j+1:Nat):Int)) ax sY
     rw[show(aj (((k+j+1:Nat):Int)+1))=k+(j+1)+1 by omega,show(aj (((k+j+1:Nat):Int)))=k+j+1 by omega]at this
     exact this
    have x:¬ix vs ((k+j+1:Nat):Int)=ix vs ((k+j:Nat):Int)->hU vs (k+(j+1)+1)=hU vs (k+j+1) ++ [ix vs ((k+j+1:Nat):Int)]:=λh=>by
     have:=UI (vs:=vs) (k:=((k+j+1:Nat):Int)) ax sY
     rw[show(aj (((k+j+1:Nat):Int)+1))=k+(j+1)+1 by omega,show(aj (((k+j+1:Nat):Int)))=k+j+1 by omega]at this
     exact this
    rw[<-r,<-K,show((k+j+1:Nat):Int)=(k:Int)+((j:Int)+1)by omega,show((k+j:Nat):Int)=(k:Int)+j by omega]at w x
    simp[-aK,d,show(j:Int)+1<((ah vs-k:Nat):Int)by omega]
    refine⟨ax,ax,ax,ax,ax,λh=>⟨ax,a8 (q,j+1,cs) aA rfl ⟨aR,d,by dsimp only;rw[w h];exact l,aR,by dsimp only;rw[w h];exact m,λi a b=>n i (by dsimp only at a;omega) b⟩ aR⟩,λh=>⟨ax,ax,ax,ax,ax,a8 (q+1,j+1,cs.set q (ix cs ((k:Int)+((j:Int)+1)))) aA oJ ⟨aR,iU,by dsimp only;rw[x h];simp;exact l,aR,?_,λi a b=>?_⟩ aR⟩⟩
    .dsimp only
     rw[x h,<-m,pE,List.take_set_of_le (bG _),List.getElem?_set_self ax]
     rfl
    .dsimp only at a ⊢
     rw[B8 ax ax,aC ax]
     exact n i ax b
   .simp[-aK,show ¬(j:Int)+1<((ah vs-k:Nat):Int)by omega]
    have y:q<=ah vs:=ax
    have z:k+j+1=ah vs:=ax
    rw[z]at l m;refine⟨d,y,?_⟩;rw[am2 (B:=Zb cs) rfl (by simp[upto,aQ,d]) ⟨ax,by simp[d];omega,rfl,rfl,rfl⟩]
    have o:putAt (cs.map .int) q (fx (ah vs-q) [.int 0])=(ja vs).map .int++ag (ah vs-q) (.int 0):=by
     unfold putAt;rw[<-List.map_take,m,kf (by simp[fx,d];omega)]
     simp[fx,ja]
    have A:ah (ja vs)=q:=by unfold ja;exact l.symm
    simp[-List.map_replicate,o,A];omega
  .simp[s]
   rw[show (aj k)=ah vs by omega]at g
   rw[UF g];simp
def am6{n:Nat}{zs:ak}(e:aQ σ b=aa (Zb zs)) (g:n=ah zs) (h:zs ≠ []) (m:(ah zs:Int)<=1000000):L BS [.sl b n 0 n] σ=aa (.bY [],aV σ b (Zb (cY zs))):=by
 subst g;refine akJ (N:=0) ?_;have d : upto σ b (ah zs)=aa (Zb zs):=by
  unfold upto;rw[e];simp
 have i:0<ah zs:=nc.2 h;simp only[lu,d];have o:ah zs<=eE:=by show (ah zs)<=1073741824;omega
 rw[aD (by simp[fR.isLive,iS,i];omega)]
 have j:(((zs.map AV.int).drop 0).take (ah zs))=zs.map .int:=by rw[mG,gN aA]
 rw[j,HZ];have l:ah (cY zs)=ah zs:=(yK zs).length_eq;have a:putAt (zs.map AV.int) 0 ((cY zs).map .int)=(cY zs).map .int:=by
  unfold putAt;rw[List.take_zero,rB,kf (by simp[l])];simp
 simp only[a]
def Ca{rest:ao}:∀{xs:ak},chunk ab (ah xs) (xs.map AV.int++rest)=xs.map .int
 | []=>rfl
 |x::xs=>by
  have e:=Ca (rest:=rest) (xs:=xs);simp only[cT,da,kK,chunk,e]
def UJ{r:Nat}{xs:ak}(h:aQ σ b=aa (ZB xs r)) (a:u=ah xs+r):view σ ae vd (.sl b u 0 (ah xs))=aa (iL xs):=by
 subst a;have a:upto σ b (ah xs+r)=aa (ZB xs r):=by
  unfold upto;rw[h];simp
 show view σ ae (11+1) _=_;unfold view;simp only[a,ba,mG,gQ,Nat.mul_one];rw[aD aA,Ca,zr (f:=AV.int) (g:=AV.int) (v:=view σ ae 11) λ_ _=>rfl]
def am7 (l:ak):ah (ja l)<=ah l:=UD l _
def UK{k:Nat}:∀{ls:al},(∀r∈ls,ah r<=k)->ah ls.flatten<=ah ls*k
 | [],_=>by simp
 |r::ls,h=>by
  have a:=UK (k:=k) (ls:=ls) λx b=>h x fS
  have d:=h r aA
  simp[fG]at a ⊢;omega
attribute [local simp] pK
def am8{A:ao}{x z:AV}{k:Nat}(h:ah A=i):putAt (A++ag (k+1) z) i [x]=A ++ [x]++ag k z:=by
 subst h;unfold putAt;rw[List.take_left,List.drop_append,kf aA]
 simp[List.drop_replicate]
def Cb (l:ak) (b:∀x∈l,0<=x/\x<=255) (o:ah l<=100000):PC uP [iL l]=aa (.str (fO l)):=by
 refine cB (akD rfl ?_);simp[-aK];refine⟨ax,?_⟩
 refine bB (λi:Nat=>[(4,.sl 0 (ah l) 0 i),(1,.int i)]) (λi=>[⟨ab,(l.take i).map (AV.ik 4)++ag (ah l-i) (.ik 4 0),.live⟩]) (λi=>i<=ah l) (λi=>ah l-i) 0 bS ax ?_
 intro i j
 by_cases d:i<ah l
 .have tk:=lZ d
  have g:=b _ (bh (l:=l) (n:=(i:Int)) ax ax)
  have a:min i (ah l)=i:=ta ax
  simp[-aK,-List.map_take,d,g.1,g.2,a];refine⟨ax,ax,λh=>absurd h ax,λ_=>⟨ax,ax,a8 (i+1) aA ?_ ax ax⟩⟩
  rw[tk,kk,show (ah l)-i=(ah l-(i+1))+1 by omega]
  have:=am8 (A:=(l.take i).map (AV.ik 4)) (z:=.ik 4 0) (x:=.ik 4 (ix l (i:Int))) (k:=ah l-(i+1)) (i:=i) aT
  exact congrArg (λc=>[(⟨ab,c,.live⟩:aO)]) this
 .have ei:i=ah l:=by omega
  subst ei;have m:=E4 (l:=l) b;have e:(l.map (AV.ik 4)).take (ah l)=l.map (AV.ik 4):=gN aA
  simp[-aK,-List.map_take,e,m]
def aS.bQ (n:aS):ak:=ja (cY (n.aF::n.call.flatten))
variable{n:aS}
def tC{x:Int}:x∈n.bQ↔x=n.aF\/∃r∈n.call,x∈r:=by
 unfold aS.bQ;rw[am3,(yK _).mem_iff];simp[List.mem_flatten]
def am9:n.bQ.Pairwise (·< ·):=UE (H5 _) (bG _)
def aS.Ok.GY(hn:n.Ok):∀r∈n.call,ah r<=64:=λr hr=>by
 obtain⟨j,hj,e⟩:=fY.1 hr;have ln:=hn.lens;have:=(hn.row j ax ax).1
 rw[bt hj,e]at this;have:=hn.ay;omega
def ana (n:aS) (j:n.Ok):PC KR [n.av]=aa (iL n.bQ):=by
 refine cB (aki rfl ?_);have A:=j.lens;have B:=UK j.GY;have m:ah n.call<=128:=by have:=j.eC;omega
 have hle:∀i:Nat,ah (n.call.take i).flatten<=ah n.call.flatten:=λi=>by
  have e:(n.call.take i).flatten++(n.call.drop i).flatten=n.call.flatten:=by rw[<-List.flatten_append,qw]
  rw[<-e];simp
 simp[-aK];refine bB (λi:Nat=>[(2,.int i),(5,.sl 0 (ah (n.call.take i).flatten+1) 0 (ah (n.call.take i).flatten+1))]) (λi=>[Zb (n.aF::(n.call.take i).flatten)]) (λi=>i<=ah n.call) (λi=>ah n.call-i) 0 bS ax ?_
 intro i C
 by_cases r:i<ah n.call
 .have d:(n.call.take (i+1)).flatten=(n.call.take i).flatten++ix n.call (i:Int):=by
   rw[lZ r,List.flatten_append];simp
  have g:=hle (i+1);have D:=j.GY _ (bh (l:=n.call) (n:=(i:Int)) ax ax)
  rw[d]at g;generalize (n.call.take i).flatten=F at *;rw[bM]at g;simp[-aK,-List.length_flatten,r];refine⟨ax,λh=>⟨ax,a8 (i+1) (by rw[d,h];simp) (by rw[d,h];simp) ax ax⟩,λh=>⟨ax,a8 (i+1) (by rw[d];simp;omega) (by rw[d];simp) ax ax⟩⟩
 .have ei:i=ah n.call:=by omega
  subst ei;rw[List.take_length];have s:=hle (ah n.call);generalize y:n.call.flatten=F at *;have w:ah n.call*64<=128*64:=mq _ m;have o:=am6 (σ:=[Zb (n.aF::F)]) (b:=0) (n:=ah F+1) (zs:=n.aF::F) rfl aA aA aT
  have o:L BS [.sl 0 (ah F+1) 0 (ah F+1)] [Zb (n.aF::F)]=aa (.bY [],[Zb (cY (n.aF::F))]):=o;have a:ah (cY (n.aF::F))=ah F+1:=by rw[(yK _).length_eq];rfl
  have p:cY (n.aF::F) ≠ []:=λe=>by rw[e]at a;simp at a
  obtain⟨v,E,x,rfl,rfl⟩:=dt (am5 (cY (n.aF::F)) p ax)
  rw[a]at x;have z:=am7 (cY (n.aF::F));have q:=UJ (σ:=[ZB (ja (cY (n.aF::F))) (ah F+1-ah (ja (cY (n.aF::F))))]) (b:=0) (u:=ah F+1) rfl ax
  simp[-aK,-List.map_replicate,o,x,q];unfold aS.bQ;rw[y]
end Ab
namespace Ab
abbrev pd (l:List (List al)):AV:=.aX ae (l.map dw)
structure UL where
 n:aS
 plc:ak
 K:al
 IN:al
 BL:List (List al)
abbrev UL.av (v:UL):AV:=.bN (.agg [.int v.n.ay,.int v.n.aG,.int v.n.aM,.int v.n.aL,.int v.n.aF,bL v.n.az,bU v.n.call,bU v.n.push,bU v.n.aH,dw v.n.aP,iL v.n.bQ,iL v.plc,bU v.K,.rF,bU v.IN,pd v.BL])
def aS.u7 (n:aS) (l:ak):Prop:=∀s∈l,0<=s/\s<(ah n.az:Int)
variable{σ:aq}{b:Nat}{fr:Bool}
def Cc{n:Nat}{out:ak}(h:aQ σ b=aa (gr out)) (a:n=ah out):view σ fr vd (.sl b n 0 n)=aa (iL out):=by
 subst a;exact sw h (by split<;>simp) rfl
def anb (v:UL) (d:v.n.Ok) (x i:Int) (e:0<=x/\x<(ah v.K:Int)) (h:0<=i/\i<v.n.aG) (j:v.n.u7 (ix v.K x)) (u:ah (ix v.K x)<=1000):LX L KS [v.av,.int x,.int i] [] (λr τ=>cK τ ad r=aa (iL ((ix v.K x).map λs=>ix (ix v.n.aH s) i))):=by
 refine akj rfl ?_;have w:=d.lens;simp[-aK,e.1,e.2];generalize ix v.K x=l at *;refine bB (λk:Nat=>[(3,.int k),(6,.sl 0 k 0 k)]) (λk=>[gr ((l.take k).map λs=>ix (ix v.n.aH s) i)]) (λk=>k<=ah l) (λk=>ah l-k) 0 bS ax ?_
 intro k y
 by_cases g:k<ah l
 .have b:=j _ (bh (l:=l) (n:=(k:Int)) ax ax)
  have m:=(d.row _ b.1 b.2).2.2.1;have o:=bz (show ix l (k:Int)<(ah v.n.aH:Int)by omega)
  have p:=bz (show i<(ah (ix v.n.aH (ix l (k:Int))):Int)by omega)
  have a:min k (ah l)=k:=ta ax
  simp[-aK,-List.map_take,g,b.1,o,p,h.1,a];exact⟨iB,ax,ax,a8 (k+1) aA (by rw[lZ g];simp) ax ax⟩
 .have q:k=ah l:=by omega
  subst q;simp[-aK];exact Cc rfl aA
def aS.rU (n:aS) (plc y:ak) (c r s:Int):Int:=
 ix (ix (ix n.aP (ix y (ix plc (ix (ix n.call s) c)))) (ix (ix n.push s) c)) r
def anc (v:UL) (b:v.n.Ok) (x c y r:Int) (m:0<=x/\x<(ah v.K:Int)) (p:0<=y/\y<(ah v.K:Int)) (h:0<=c/\c<v.n.ay) (q:0<=r/\r<v.n.aM) (u:v.n.u7 (ix v.K x)) (j:v.n.u7 (ix v.K y)) (F:ah (ix v.K x)<=1000)
  (w:∀s,0<=s->s<(ah v.n.az:Int)->ix (ix v.n.call s) c<(ah v.plc:Int)/\0<=ix v.plc (ix (ix v.n.call s) c)/\ix v.plc (ix (ix v.n.call s) c)<(ah (ix v.K y):Int)):LX L K9 [v.av,.int x,.int c,.int y,.int r] [] (λz τ=>cK τ ad z=aa (iL ((ix v.K x).map (v.n.rU v.plc (ix v.K y) c r)))):=by
 refine akL rfl ?_;have G:=b.lens;simp[-aK,m.1,m.2];generalize ix v.K x=l at *;refine bB (λk:Nat=>[(5,.int k),(9,.sl 0 k 0 k)]) (λk=>[gr ((l.take k).map (v.n.rU v.plc (ix v.K y) c r))]) (λk=>k<=ah l) (λk=>ah l-k) 0 bS ax ?_
 intro k H
 by_cases o:k<ah l
 .have a:=u _ (bh (l:=l) (n:=(k:Int)) ax ax)
  have tk:=lZ o;have A:=b.row _ a.1 a.2;have d:=w _ a.1 a.2;have B:=b.call _ _ a.1 a.2 h.1 h.2;have e:=b.push _ _ a.1 a.2 h.1 h.2;have i:=j _ (bh d.2.1 d.2.2);have C:=b.row _ i.1 i.2;have D:=b.zp _ _ i.1 i.2 e.1 e.2;have g:min k (ah l)=k:=ta ax
  simp[-aK,-List.map_take,o,a.1,g];refine⟨p,ax,ax,ax,ax,ax,ax,ax,ax,ax,iB,ax,ax,a8 (k+1) aA (by rw[tk];simp[aS.rU]) ax ax⟩
 .have E:k=ah l:=by omega
  subst E;simp[-aK];exact Cc rfl aA
def sx:Nat->al->List (AV×AV)
 |_,[]=>[]
 |i,l::K=>(.str (fO l),.int i)::sx (i+1) K
def Fm:∀(i:Nat) (K:al) (l:ak),sx i (K ++ [l])=sx i K ++ [(.str (fO l),.int ((i+ah K:Nat):Int))]
 |i,[],l=>by simp[sx]
 |i,k::K,l=>by
  have:=Fm (i+1) K l;simp only[kK,sx,this,cT];rw[show i+1+ah K=i+(ah K+1)by omega]
def eD (l:ak):Prop:=∀x∈l,0<=x/\x<=255
def zt{l:ak}(b:eD l):∀(i:Nat) (K:al),(∀k∈K,eD k)->dg (sx i K) (.str (fO l))=aa (if l∈K then aa (.int ((i+K.idxOf l:Nat):Int))else ab)
 |i,[],_=>rfl
 |i,k::K,h=>by
  have d:=zt b (i+1) K λr g=>h r jC
  simp only[sx,dg,fh]
  by_cases a:k=l
  .subst a;simp[List.idxOf_cons]
  .have j:decide (fO l=fO k)=ae:=by
    rw[yM];intro m;exact a (E5 b (h k aA) m).symm
   rw[j];simp only[d];have n:¬l=k:=λe=>a e.symm;have o:(k==l)=ae:=iQ
   simp[n,List.idxOf_cons,o];split
   .congr 2;omega
   .rfl
inductive Tg where
 |v|pl|mp|ls|bp|bl
 |rw(x:Nat)
 |cl (x c:Nat)
 |old (i:Nat)
 deriving DecidableEq
def dh (b k:Nat):AV:=if k=0 then .aJ else .sl b k 0 k
def wI (l:ak):AV:=.aX (decide (l ≠ [])) (l.map .int)
structure Vd where
 n:aS
 plc:ak
 K:al
 IN:al
 BL:List (List al)
abbrev Vd.vcs (D:Vd):UL:=⟨D.n,D.plc,D.K,D.IN,D.BL⟩
def Vd.row (D:Vd) (x:Nat):List al:=ix D.BL (x:Int)
def Vd.cv (D:Vd) (x c:Nat):al:=ix (D.row x) (c:Int)
def Vd.box (D:Vd) (p:Tg->Nat):aO:=⟨aa 16,[.int D.n.ay,.int D.n.aG,.int D.n.aM,.int D.n.aL,.int D.n.aF,bL D.n.az,bU D.n.call,bU D.n.push,bU D.n.aH,dw D.n.aP,iL D.n.bQ,.sl (p .pl) (ah D.plc) 0 (ah D.plc),.sl (p .ls) (ah D.K) 0 (ah D.K),.cZ (p .mp),dh (p .bp) (ah D.IN),dh (p .bl) (ah D.BL)],.live⟩
def Vd.vJ (D:Vd) (p:Tg->Nat):aO:=⟨ab,(af (ah D.BL)).map λx=>.sl (p (.rw x)) (ah (D.row x)) 0 (ah (D.row x)),.live⟩
def Vd.lE (D:Vd) (p:Tg->Nat) (x:Nat):aO:=⟨ab,(af (ah (D.row x))).map λc=>dh (p (.cl x c)) (ah (D.cv x c)),.live⟩
def Vd.cont (D:Vd) (O:Nat->Option aO) (p:Tg->Nat):Tg->Option aO
 |.v=>aa (D.box p)
 |.pl=>aa (Zb D.plc)
 |.mp=>aa ⟨aa 0,[],.map (sx 0 D.K)⟩
 |.ls=>aa ⟨ab,D.K.map iL,.live⟩
 |.bp=>if D.IN=[]then ab else aa ⟨ab,D.IN.map wI,.live⟩
 |.bl=>if D.BL=[]then ab else aa (D.vJ p)
 |.rw x=>if x<ah D.BL then aa (D.lE p x)else ab
 |.cl x c=>if x<ah D.BL/\c<ah (D.row x)/\D.cv x c ≠ []then aa ⟨ab,(D.cv x c).map wI,.live⟩else ab
 |.old i=>O i
structure VS (D:Vd) (O:Nat->Option aO) (p:Tg->Nat) (σ:aq):Prop where
 has:∀t B,D.cont O p t=aa B->aQ σ (p t)=aa B
 inj:∀t u A B,D.cont O p t=aa A->D.cont O p u=aa B->p t=p u->t=u
 old:∀i,p (.old i)=i
variable{B:aO}
def u9{u:Nat}(h:aQ σ b=aa B) (a:ah B.cells=u) (d:B.st.gx=ad):upto σ b u=aa B:=by
 unfold upto;rw[h];cases e:B.st<;>simp_all
variable{D:Vd}{O:Nat->Option aO}{p:Tg->Nat}{t:Tg}{A:aO}
def VS.ne(h:VS D O p σ){u:Tg}(ht:D.cont O p t=aa A) (hu:D.cont O p u=aa B) (hn:t ≠ u):p t ≠ p u:=λe=>hn (h.inj t u A B ht hu e)
def VS.lt(h:VS D O p σ)(ht:D.cont O p t=aa A):p t<ah σ:=cX (h.has t A ht)
variable{D': Vd}{τ:aq}
def VS.pb{D: Vd}(h:VS D O p σ) (hu:∀t B,D'.cont O p t=aa B->∃A,D.cont O p t=aa A) (hb:∀t B,D'.cont O p t=aa B->aQ τ (p t)=aa B):VS D' O p τ:=
 ⟨hb,λt u A B ht Ba e=>by
  obtain⟨A', hA⟩:=hu t A ht;obtain⟨B', hB⟩:=hu u B Ba;exact h.inj t u A' B' hA hB e,h.old⟩
def vc (O:Nat->Option aO) (b:Nat) (B:aO):Nat->Option aO:=λi=>if i=b then aa B else O i
def wT(a:t ≠ .old b):D.cont (vc O b B) p t=D.cont O p t:=by
 cases t<;>try rfl
 rename_i i;show vc O b B i=O i;unfold vc;rw[aC λe=>a fk]
def zu:D.cont (vc O b B) p (.old b)=aa B:=aD rfl
def VS.push(h:VS D O p σ) (B:aO):VS D (vc O (ah σ) B) p (σ ++ [B]):=by
 refine⟨λt A hA=>?_,λt u A A' hA wU e=>?_,h.old⟩
 .by_cases ht:t = .old (ah σ)
  .subst ht
   rw[zu]at hA;rw[h.old,<-hA];exact gZ
  .rw[wT ht]at hA
   exact iu (h.has t A hA)
 .by_cases ht:t = .old (ah σ)
  .by_cases hu:u = .old (ah σ)
   .rw[ht,hu]
   .rw[wT hu]at wU
    have:=h.lt wU;rw[<-e,ht,h.old]at this;omega
  .by_cases hu:u = .old (ah σ)
   .rw[wT ht]at hA
    have:=h.lt hA;rw[e,hu,h.old]at this;omega
   .rw[wT ht]at hA
    rw[wT hu]at wU;exact h.inj t u A A' hA wU e
def VS.put(h:VS D O p σ)(hA:O b=aa A) (B:aO):VS D (vc O b B) p (aV σ b B):=by
 have hb:D.cont O p (.old b)=aa A:=hA;have cw:=h.lt hb;rw[h.old]at cw;refine⟨λt C hC=>?_,λt u C C' hC hC' e=>?_,h.old⟩
 .by_cases ht:t = .old b
  .subst ht
   rw[zu]at hC;rw[h.old,<-hC];exact cQ cw
  .rw[wT ht]at hC
   have:=h.ne hb hC (Ne.symm ht);rw[h.old]at this;rw[bu this];exact h.has t C hC
 .have key:∀t C,D.cont (vc O b B) p t=aa C->∃C', D.cont O p t=aa C' :=λt C hC=>by
   by_cases ht:t = .old b
   .subst ht;exact⟨A,hb⟩
   .rw[wT ht]at hC;exact⟨C,hC⟩
  obtain⟨_,h1⟩:=key t C hC;obtain⟨_,h2⟩:=key u C' hC';exact h.inj t u _ _ h1 h2 e
def VS.Cd{O O' : Nat->Option aO}(h:VS D O p σ) (ho:∀i B,O' i=aa B->O i=aa B):VS D O' p σ:=by
 have key:∀t B,D.cont O' p t=aa B->D.cont O p t=aa B:=λt B hB=>by
  cases t<;>try exact hB
  exact ho _ _ hB
 exact⟨λt B hB=>h.has t B (key t B hB),λt u A B hA hB e=>h.inj t u A B (key t A hA) (key u B hB) e,h.old⟩
def Vd.add (D:Vd) (l:ak):Vd:=if l∈D.K then D else {D with K:=D.K ++ [l]}
def UM (D:Vd) (O:Nat->Option aO) (p:Tg->Nat) (σ:aq) (h:VS D O p σ) (l:ak) (q:eD l) (C:∀k∈D.K,eD k) (E:ah l<=1000) (F:D.K ≠ []) (I:ah D.K<=100000) :
  LX L zj [.ptr (p .v) 16 0,iL l] σ (λr τ=>r = .int (D.K.idxOf l)/\VS (D.add l) O p τ/\ah τ=ah σ):=by
 refine S5 rfl ?_;have o:=h.has .v _ rfl;have g:=h.has .mp _ rfl;have i:=h.has .ls _ rfl;have s:=Cb l q ax
 have n:=zt q 0 D.K C;have j:∀x,bP 1 (.str x)=ad:=λ_=>rfl;unfold Vd.box at o
 by_cases m:l∈D.K
 .rw[aD m]at n
  simp[-aK,o,g,i,s,n,j];rw[Vd.add,aD m];exact h
 .rw[aC m]at n
  have w:p .mp ≠ p .v:=h.ne (t:=.mp) (u:=.v) rfl rfl aA
  have y:p .mp ≠ p .ls:=h.ne (t:=.mp) (u:=.ls) rfl rfl aA
  have z:p .ls ≠ p .v:=h.ne (t:=.ls) (u:=.v) rfl rfl aA
  have b1:∀(Q:aq) B,aQ (aV Q (p .mp) B) (p .v)=aQ Q (p .v):=λQ B=>bu w;have G:∀(Q:aq) B,aQ (aV Q (p .mp) B) (p .ls)=aQ Q (p .ls):=λQ B=>bu y;have H:∀(Q:aq) B,aQ (aV Q (p .ls) B) (p .v)=aQ Q (p .v):=λQ B=>bu z;have J:D.K.idxOf l=ah D.K:=List.idxOf_eq_length m;simp[-aK,o,g,i,s,n,j,b1,G,H];refine⟨ax,ax,?_,by rw[cV,cV,cV]⟩
  rw[Vd.add,aC m];have A:∀t,t ≠ .v->t ≠ .ls->t ≠ .mp->Vd.cont {D with K:=D.K ++ [l]} O p t=D.cont O p t:=λt b d e=>by
   cases t<;>first|rfl|exact absurd rfl b|exact absurd rfl d|exact absurd rfl e
  refine h.pb (λt B a=>?_) λt B a=>?_
  .by_cases b:t = .v
   .subst b;exact⟨_,rfl⟩
   by_cases d:t = .ls
   .subst d;exact⟨_,rfl⟩
   by_cases e:t = .mp
   .subst e;exact⟨_,rfl⟩
   rw[A t b d e]at a;exact⟨B,a⟩
  .by_cases b:t = .v
   .subst b
    rw[cQ (by rw[cV,cV];exact h.lt (t:=.v) rfl)]
    rw[<-a];simp[Vd.cont,Vd.box]
   by_cases d:t = .ls
   .subst d
    rw[bu z.symm,cQ (by rw[cV];exact h.lt (t:=.ls) rfl),<-a]
    simp[Vd.cont]
   by_cases e:t = .mp
   .subst e
    rw[bu w.symm,bu y.symm,cQ (h.lt (t:=.mp) rfl),<-a];simp[Vd.cont,Fm]
   rw[A t b d e]at a;rw[bu (h.ne (t:=.v) rfl a (Ne.symm b)),bu (h.ne (t:=.ls) rfl a (Ne.symm d)),bu (h.ne (t:=.mp) rfl a (Ne.symm e))];exact h.has t B a
variable{α:Type}
def rV{b:Type} [Inhabited α]{f:α->b}{l:List α}:(af (ah l)).map (λ(x:Nat)=>f (ix l (x:Int)))=l.map f:=by
 apply gF aA
 intro i a d;simp at a;simp[bt a]
variable{k:Nat}
def rW{f g:α->AV}{n:Nat}{xs:List α}(h:xs ≠ []->aQ σ b=aa ⟨ab,xs.map f,.live⟩) (a:n=ah xs) (i:∀x∈xs,view σ fr k (f x)=aa (g x)) :
  view σ fr (k+1) (dh b n)=aa (.aX ae (xs.map g)):=by
 by_cases d:xs=[]
 .subst d;subst a;rfl
 .have:n ≠ 0:=by subst a;exact λe=>d (eK e)
  unfold dh;rw[aC this];exact gY (h d) rfl a i
def de{f:AV->Option AV}{a b:AV}{l m:ao}(d:f a=aa b) (e:cu f l=aa m):cu f (a::l)=aa (b::m):=by
 simp only[cu,d,e]
def VS.view(h:VS D O p σ):Ab.view σ ae vd (.ptr (p .v) 16 0)=aa D.vcs.av:=by
 have hv:=h.has .v _ rfl;have hu:upto σ (p .v) 16=aa (D.box p):=u9 hv rfl rfl;show Ab.view σ ae (11+1) _=_;unfold Ab.view;simp only[hu];have hp:part (D.box p).cells 0 (D.box p).k=aa (.agg (D.box p).cells):=rfl;rw[aD (by rfl),hp]
 have hm:cu (Ab.view σ ae 10) (D.box p).cells=aa [.int D.n.ay,.int D.n.aG,.int D.n.aM,.int D.n.aL,.int D.n.aF,bL D.n.az,bU D.n.call,bU D.n.push,bU D.n.aH,dw D.n.aP,iL D.n.bQ,iL D.plc,bU D.K,.rF,bU D.IN,pd D.BL]:=by
  unfold Vd.box;refine de rfl (de rfl (de rfl (de rfl (de rfl (de rfl (de rfl (de rfl (de rfl (de rfl (de rfl (de ?_ (de ?_ (de rfl (de ?_ (de ?_ rfl)))))))))))))))
  .exact gY (k:=9) (h.has .pl _ rfl) rfl rfl λ_ _=>rfl
  .exact gY (k:=9) (h.has .ls _ rfl) rfl rfl λ_ _=>rfl
  .exact rW (k:=9) (λhx=>h.has .bp _ (aC hx)) rfl λ_ _=>rfl
  .have e:pd D.BL = .aX ae ((af (ah D.BL)).map λ(x:Nat)=>dw (D.row x)):=by
    unfold Vd.row;rw[rV (f:=dw)]
   rw[e];refine rW (k:=9) (f:=λx=>.sl (p (.rw x)) (ah (D.row x)) 0 (ah (D.row x))) (λhx=>h.has .bl _ (aC λe=>hx fW)) aA λx hx=>?_
   have lh :=cE.1 hx;have e:dw (D.row x) = .aX ae ((af (ah (D.row x))).map λ(c:Nat)=>bU (D.cv x c)):=by
    unfold Vd.cv;rw[rV (f:=bU)]
   rw[e];refine gY (k:=8) (f:=λc=>dh (p (.cl x c)) (ah (D.cv x c))) (h.has (.rw x) _ (aD lh)) rfl aA λc hc=>?_
   exact rW (k:=7) (λhz=>h.has (.cl x c) _ (aD ⟨lh, cE.1 hc,hz⟩)) rfl λ_ _=>rfl
 have ZG:Ab.view σ ae 11 (.agg (D.box p).cells)=aa (.agg [.int D.n.ay,.int D.n.aG,.int D.n.aM,.int D.n.aL,.int D.n.aF,bL D.n.az,bU D.n.call,bU D.n.push,bU D.n.aH,dw D.n.aP,iL D.n.bQ,iL D.plc,bU D.K,.rF,bU D.IN,pd D.BL]):=by
  show Ab.view σ ae (10+1) _=_;unfold Ab.view;simp only[hm]
 simp only[ZG]
def jr (K:al) (l:ak):al:=if l∈K then K else K ++ [l]
def bj (K vs:al):al:=vs.foldl jr K
variable{l:ak}
def UN:D.add l={D with K:=jr D.K l}:=by
 unfold Vd.add jr;split<;>rfl
variable{K vs:al}
def Ce:bj K (vs ++ [l])=jr (bj K vs) l:=by simp[bj]
def LR (K:al) (l:ak):∃r,jr K l=K++r/\ah r<=1:=by
 unfold jr;split
 .exact⟨[],aA,aA⟩
 .exact⟨[l],rfl,aA⟩
def zw:∀(vs K:al),∃r,bj K vs=K++r/\ah r<=ah vs
 | [],K=>⟨[],by simp[bj],aA⟩
 |v::vs,K=>by
  obtain⟨r,a,e⟩:=LR K v;obtain⟨b, d,g⟩:=zw vs (jr K v);exact⟨r++b, by show bj (jr K v) vs=_;rw[d,a,jg],aT⟩
def ane:l∈jr K l:=by
 unfold jr;split
 .assumption
 .simp
variable{r:al}
def UO(h:l∈K):(K++r).idxOf l=K.idxOf l:=by
 rw[List.idxOf_append,aD h]
def UP{m:ak}(h:l∈K):(jr K m).idxOf l=K.idxOf l:=by
 obtain⟨r,a,_⟩:=LR K m;rw[a,UO h]
def anf:(jr K l).idxOf l=K.idxOf l:=by
 by_cases h:l∈K
 .exact UP h
 .unfold jr
  rw[aC h,List.idxOf_append,aC h,List.idxOf_eq_length h];simp
def ve:∀{vs K:al}{l:ak},l∈vs\/l∈K->l∈bj K vs
 | [],K,l,h=>by simpa[bj]using h
 |v::vs,K,l,h=>by
  show l∈bj (jr K v) vs;rcases h with h|h
  .rcases cC.1 h with rfl|h
   .exact ve (.inr ane)
   .exact ve (.inl h)
  .obtain⟨r,a,_⟩:=LR K v
   exact ve (.inr (by rw[a];simp[h]))
def Fo{P:ak->Prop}:∀{vs K:al},(∀k∈K,P k)->(∀v∈vs,P v)->∀k∈bj K vs,P k
 | [],K,h,_=>h
 |v::vs,K,h,b=>by
  refine Fo (vs:=vs) (K:=jr K v) (λk a=>?_) λw d=>b w iU
  unfold jr at a;split at a
  .exact h k a
  .rcases dI.1 a with a|a
   .exact h k a
   .simp at a;subst a;exact b k aA
def idxs (K vs:al):ak:=vs.map λl=>((K.idxOf l:Nat):Int)
def Fp:idxs (bj K (vs ++ [l])) (vs ++ [l])=idxs (bj K vs) vs ++ [(((bj K vs).idxOf l:Nat):Int)]:=by
 unfold idxs;rw[kk,Ce]
 congr 1
 .exact fm λm a=>by rw[UP (ve (.inl a))]
 .simp[anf]
def UQ{σ:aq}:∀(ws:ak) (acc:List Nat),(ws.map AV.int).foldl (λacc y=>reach σ 11 y acc) acc=acc
 | [],_=>rfl
 |w::ws,acc=>by simp only[da,my];exact UQ ws acc
def UR{b:Nat}{B:aO}:∀{σ:aq}{n:Nat},aQ σ b=aa B->bR (λc=>[n+b].contains c) n σ=aV σ b ⟨B.k,B.cells,.dead⟩
 | [],_,h=>by simp[aQ]at h
 |A::σ,n,h=>by
  have a:∀(τ:aq) (m:Nat),n+b<m->bR (λc=>[n+b].contains c) m τ=τ:=by
   intro τ
   induction τ with
   |nil=>intro m _;rfl
   |cons C τ d=>
    intro m i;simp only[bR];rw[d (m+1) ax]
    rw[aC aT]
  cases b with
  |zero=>
   have e:A=B:=by simpa[aQ]using h
   subst e;simp only[bR,aV];rw[a σ (n+1) ax]
   simp
  |succ b=>
   have g:aQ σ b=aa B:=h;have:=UR (n:=n+1) g;simp only[bR,aV];rw[show n+(b+1)=n+1+b by omega,this]
   rw[aC aT]
def Cf{vars:ao}{d:Option (Nat×AV)}{n:Nat}{Q:Ex->St->Prop}(a:aQ σ b=aa (gr l)) (g:nth vars k = .sl b n 0 n) (e:n=ah l) (h:Q .fe ⟨eY vars k (.aX (decide (l ≠ [])) (l.map .int)),d,aV σ b ⟨ab,l.map .int,.dead⟩⟩):W L (.km k) ⟨vars,d,σ⟩ Q:=by
 have i:reach σ vd (.sl b n 0 n) []=[b]:=by
  show reach σ (11+1) (.sl b n 0 n) []=[b];unfold reach;simp only[List.contains_nil,ff,fv,a];exact UQ l [b]
 have hd:=UR (n:=0) a;rw[gQ]at hd;have j:view (bR (λc=>!([b]:List Nat).contains c) 0 σ) ae vd (.sl b n 0 n)=aa (iL l):=by
  refine Cc ?_ e;rw[nK,a];simp
 have m:fJ σ (.sl b n 0 n)=decide (l ≠ []):=by
  have:upto σ b n=aa (gr l):=by
   refine u9 a fX ?_
   show fR.gx (if l=[]then .jN else .live)=ad
   split<;>rfl
  simp only[fJ,this]
  by_cases h:l=[]<;>simp[h]
 refine⟨0,.fe,_,?_,h⟩;simp only[exec,g,i,j,m,hd]
 by_cases h:l=[]
 .subst h;simp;rfl
 .simp[h]
structure vg (D:Vd):Prop where
 ok:D.n.Ok
 st:∀k∈D.K,D.n.u7 k/\ah k=ah D.n.bQ
 el:ah D.n.bQ<=128
 plc:∀s c,0<=s->s<(ah D.n.az:Int)->0<=c->c<D.n.ay->ix (ix D.n.call s) c<(ah D.plc:Int)/\0<=ix D.plc (ix (ix D.n.call s) c)/\ix D.plc (ix (ix D.n.call s) c)<(ah D.n.bQ:Int)
variable{n:aS}
def Cg(a:n.Ok)(h:n.u7 l):eD l:=λx b=>by
 have:=h x b;have:=a.eC;omega
def Vd.eQ (D:Vd) (x c y:Nat):al:=(af (aj D.n.aM)).map λ(r:Nat)=>(ix D.K (x:Int)).map (D.n.rU D.plc (ix D.K (y:Int)) c r)
variable{x:Nat}
def vg.kx(h:vg D)(hx:x<ah D.K):D.n.u7 (ix D.K (x:Int))/\ah (ix D.K (x:Int))=ah D.n.bQ:=h.st _ (bh ax ax)
variable{y:Nat}
def vg.rU(h:vg D){c r:Int}(hx:x<ah D.K) (hy:y<ah D.K) (hc:0<=c/\c<D.n.ay) (hr:0<=r/\r<D.n.aM) :
  D.n.u7 ((ix D.K (x:Int)).map (D.n.rU D.plc (ix D.K (y:Int)) c r))/\ah ((ix D.K (x:Int)).map (D.n.rU D.plc (ix D.K (y:Int)) c r))=ah D.n.bQ:=by
 refine⟨λs hs=>?_,by rw[db];exact(h.kx hx).2⟩
 obtain⟨t,ht,rfl⟩:=cJ.1 hs;have h1:=(h.kx hx).1 t ht;obtain⟨p1,p2,p3⟩:=h.plc t c h1.1 h1.2 hc.1 hc.2;have hy2:=h.kx hy;have h2:=hy2.1 _ (bh p2 ax)
 have h3:=h.ok.push t c h1.1 h1.2 hc.1 hc.2;exact h.ok.aP _ _ r h2.1 h2.2 h3.1 h3.2 hr.1 hr.2
def vg.bj(h:vg D)(hv:∀v∈vs,D.n.u7 v/\ah v=ah D.n.bQ):vg {D with K:=bj D.K vs}:=
 ⟨h.ok,Fo h.st hv,h.el,h.plc⟩
def Vd.comb (D:Vd) (x c y:Nat):Vd:={D with K:=bj D.K (D.eQ x c y),BL:=D.BL.set x ((D.row x).set c (D.cv x c ++ [idxs (bj D.K (D.eQ x c y)) (D.eQ x c y)]))}
def jZ [Inhabited α]{l:List α}{v:α}(b:k<ah l) (j:Nat):ix (l.set k v) (j:Int)=if j=k then v else ix l (j:Int):=by
 by_cases a:j<ah l
 .rw[bt iQ,bt a,jm]
  by_cases e:k=j
  .rw[aD e,aD e.symm]
  .rw[aC e,aC (Ne.symm e)]
 .rw[aC ax]
  unfold ix;rw[fI,fI,il aT,il aT]
def Vd.dS (D:Vd) (x c:Nat) (w:al):Vd:={D with BL:=D.BL.set x ((D.row x).set c w)}
variable{c:Nat}{w:al}
def US(a:x<ah D.BL) (y:Nat):(D.dS x c w).row y=if y=x then(D.row x).set c w else D.row y:=jZ a y
def wV(a:x<ah D.BL) (y:Nat):ah ((D.dS x c w).row y)=ah (D.row y):=by
 rw[US a];split
 .rename_i e;subst e;simp
 .rfl
def zx(a:x<ah D.BL) (b:c<ah (D.row x)) (y d:Nat):(D.dS x c w).cv y d=if y=x/\d=c then w else D.cv y d:=by
 unfold Vd.cv;rw[US a]
 by_cases e:y=x
 .subst e
  rw[aD rfl,jZ b];simp
 .rw[aC e,aC λh=>e h.1]
variable{p': Tg->Nat}
theorem UT(b:x<ah D.BL) (j:c<ah (D.row x)){p: Tg->Nat}(a:∀t,t ≠ .cl x c->p' t=p t)(m:t ≠ .rw x) (n:t ≠ .cl x c):(D.dS x c w).cont O p' t=D.cont O p t:=by
 have g:ah (D.dS x c w).BL=ah D.BL:=by simp[Vd.dS]
 have o:(D.dS x c w).BL=[]↔D.BL=[]:=by rw[<-List.length_eq_zero_iff,g,List.length_eq_zero_iff]
 cases t with
 |v=>
  show aa ((D.dS x c w).box p')=aa (D.box p);unfold Vd.box;rw[g,a .pl aA,a .ls aA,a .mp aA,a .bp aA,a .bl aA]
  rfl
 |pl=>rfl
 |mp=>rfl
 |ls=>rfl
 |bp=>rfl
 |bl=>
  show(if(D.dS x c w).BL=[]then ab else aa ((D.dS x c w).vJ p'))=if D.BL=[]then ab else aa (D.vJ p)
  simp only[o];unfold Vd.vJ;rw[g];simp only[wV b,λy=>a (.rw y) aA]
 |rw y=>
  show(if y<ah (D.dS x c w).BL then aa ((D.dS x c w).lE p' y)else ab)=if y<ah D.BL then aa (D.lE p y)else ab
  rw[g];have l:¬y=x:=λe=>m fk
  unfold Vd.lE;have h:∀d,p' (.cl y d)=p (.cl y d):=λd=>a _ (by simp[l])
  simp only[wV b,zx b j,l,false_and,fv,h]
 |cl y d=>
  have q:¬(y=x/\d=c):=λe=>n (by rw[e.1,e.2])
  show(if y<ah (D.dS x c w).BL/\d<ah ((D.dS x c w).row y)/\(D.dS x c w).cv y d ≠ []then aa (⟨ab,((D.dS x c w).cv y d).map wI,.live⟩:aO)else ab)=if y<ah D.BL/\d<ah (D.row y)/\D.cv y d ≠ []then aa ⟨ab,(D.cv y d).map wI,.live⟩else ab
  rw[g,wV b,zx b j,aC q]
 |old i=>rfl
def VS.dS{p: Tg->Nat}(h:VS D O p σ)(hx:x<ah D.BL) (hc:c<ah (D.row x)) (hp:∀t,t ≠ .cl x c->p' t=p t) (hw:w ≠ [])
  (sN:aQ τ (p' (.cl x c))=aa ⟨ab,w.map wI,.live⟩) (xZ:aQ τ (p (.rw x))=aa ((D.dS x c w).lE p' x))
  (hot:∀t B,t ≠ .rw x->t ≠ .cl x c->D.cont O p t=aa B->aQ τ (p t)=aa B)
  (jl:∀t B,t ≠ .cl x c->D.cont O p t=aa B->p t ≠ p' (.cl x c)):VS (D.dS x c w) O p' τ:=by
 have hl:ah (D.dS x c w).BL=ah D.BL:=by simp[Vd.dS]
 have key:∀t B,t ≠ .cl x c->(D.dS x c w).cont O p' t=aa B->∃A,D.cont O p t=aa A:=λt B ht hB=>by
  by_cases h1:t = .rw x
  .subst h1;exact⟨_,aD hx⟩
  .rw[UT hx hc hp h1 ht]at hB;exact⟨B,hB⟩
 refine⟨λt B hB=>?_,λt u A B hA hB e=>?_,λi=>by rw[hp _ aA];exact h.old i⟩
 .by_cases h2:t = .cl x c
  .subst h2
   have:(D.dS x c w).cont O p' (.cl x c)=aa ⟨ab,w.map wI,.live⟩:=by
    show(if x<ah (D.dS x c w).BL/\c<ah ((D.dS x c w).row x)/\(D.dS x c w).cv x c ≠ []then aa (⟨ab,((D.dS x c w).cv x c).map wI,.live⟩:aO)else ab)=_
    simp only[hl,wV hx,zx hx hc,and_self,dM];rw[aD ⟨hx,hc,hw⟩]
   rw[this]at hB;rw[sN];exact hB
  by_cases h1:t = .rw x
  .subst h1
   have:(D.dS x c w).cont O p' (.rw x)=aa ((D.dS x c w).lE p' x):=aD (by rw[hl];exact hx)
   rw[this]at hB;rw[hp _ h2,xZ];exact hB
  .rw[UT hx hc hp h1 h2]at hB
   rw[hp _ h2];exact hot t B h1 h2 hB
 .by_cases h1:t = .cl x c
  .by_cases h2:u = .cl x c
   .rw[h1,h2]
   .obtain⟨B', Ai⟩:=key u B h2 hB
    rw[h1,hp _ h2]at e;exact absurd e.symm (jl u B' h2 Ai)
  .obtain⟨A', wU⟩:=key t A h1 hA
   by_cases h2:u = .cl x c
   .rw[h2,hp _ h1]at e
    exact absurd e (jl t A' h1 wU)
   .obtain⟨B', Ai⟩:=key u B h2 hB
    rw[hp _ h1,hp _ h2]at e;exact h.inj t u A' B' wU Ai e
def UU{p: Tg->Nat}(a:x<ah D.BL) (b:c<ah (D.row x)) (g:∀t,t ≠ .cl x c->p' t=p t) (j:w ≠ []) :
  (D.dS x c w).lE p' x=⟨ab,((af (ah (D.row x))).map λd=>dh (p (.cl x d)) (ah (D.cv x d))).set c (.sl (p' (.cl x c)) (ah w) 0 (ah w)),.live⟩:=by
 unfold Vd.lE;rw[wV a]
 congr 1
 apply gF aA
 intro i l n;simp at l;rw[jm];simp only[gq,jn,zx a b]
 by_cases e:c=i
 .subst e
  rw[aD rfl];simp only[and_self,dM];exact aC λe=>j (eK e)
 .rw[aC e,aC λh=>e h.2.symm,g _ (by simp;exact λm =>e m.symm)]
def tD:∀{cs:ao}{k:Nat}{x:AV},mI cs k [x]=cs.set k x
 | [],0,_=>rfl
 | [],_+1,_=>rfl
 |c::cs,0,x=>by cases cs<;>rfl
 |c::cs,k+1,x=>by rw[sQ,<-tD (cs:=cs)]
def LU{row:ak}:AV.aX (!decide (row=[])) (row.map AV.int)=wI row:=by unfold wI;simp
def ang (D:Vd) (O:Nat->Option aO) (p:Tg->Nat) (σ:aq) (h:VS D O p σ) (U:vg D) (x c y:Nat) (hx:x<ah D.K) (hy:y<ah D.K) (hc:(c:Int)<D.n.ay) (a:x<ah D.BL) (g:c<ah (D.row x)) (hK:ah D.K<=1000) (sN:ah (D.cv x c)<=1000) :
  LX L BO [.ptr (p .v) 16 0,.int x,.int c,.int y] σ (λr τ=>r = .bY []/\∃p', p' .v=p .v/\VS (D.comb x c y) O p' τ):=by
 refine akk rfl ?_;have hn:=U.ok;have N5:=hn.aM;have V:=h.has .v _ rfl;unfold Vd.box at V;have Pa:∀B:aO,aQ (σ ++ [B]) (p .v)=_:=λB=>iu (r:=[B]) V;simp[-aK,Pa];have rl:ah (D.eQ x c y)=aj D.n.aM:=by simp[Vd.eQ]
 refine bB (λq:Nat×aq=>[(4,.int q.1),(6,.sl (ah σ) q.1 0 q.1)]) (λq=>q.2)
  (λq=>q.1<=aj D.n.aM/\VS {D with K:=bj D.K ((D.eQ x c y).take q.1)} (vc O (ah σ) (gr (idxs (bj D.K ((D.eQ x c y).take q.1)) ((D.eQ x c y).take q.1)))) p q.2) (λq=>aj D.n.aM-q.1) (0,σ ++ [gr []]) bS ⟨aA,by simpa[bj,idxs]using h.push _⟩ ?_
 rintro⟨r,Z⟩ ⟨r0,W⟩;dsimp only at r0 W ⊢;generalize I:D.eQ x c y=vs at *;obtain⟨ext,o,he2⟩:=zw (vs.take r) D.K;have J:ix (bj D.K (vs.take r)) (x:Int)=ix D.K (x:Int):=by rw[o,bt aT,bt hx,List.getElem_append_left]
 have M:ix (bj D.K (vs.take r)) (y:Int)=ix D.K (y:Int):=by rw[o,bt aT,bt hy,te]
 have GV:=W.view;have hb:=W.has (.old (ah σ)) _ zu;rw[W.old]at hb
 by_cases hr:r<aj D.n.aM
 .have N:(r:Int)<D.n.aM:=by omega
  have R:∀v∈vs,D.n.u7 v/\ah v=ah D.n.bQ:=λv V=>by
   rw[<-I]at V;obtain⟨r', xY, rfl⟩:=cJ.1 V;have:=cE.1 xY;exact U.rU hx hy ⟨ax,hc⟩ ⟨ax,ax⟩
  have hDr:=U.bj (vs:=vs.take r) λv V=>R v (List.mem_of_mem_take V);have Bu:ix vs (r:Int)=(ix D.K (x:Int)).map (D.n.rU D.plc (ix D.K (y:Int)) c r):=by
   rw[<-I,Vd.eQ,kv ax aT]
   simp[bt (show r<ah (af (aj D.n.aM)) by simp;omega)]
  have hlx:=U.kx hx;have hly:=U.kx hy;have Il:=U.el;have hx1:(x:Int)<(ah (bj D.K (vs.take r)):Int):=by rw[o];simp;omega
  have hy1:(y:Int)<(ah (bj D.K (vs.take r)):Int):=by rw[o];simp;omega
  have hKl:ah (bj D.K (vs.take r))<=2000:=by rw[o,bM];have:ah (vs.take r)<=r:=List.length_take_le r vs;omega
  have hA:=anc (Vd.vcs {D with K:=bj D.K (vs.take r)}) hn x c y r ⟨ax,hx1⟩ ⟨ax,hy1⟩ ⟨ax,hc⟩ ⟨ax,N⟩ (by show D.n.u7 (ix (bj D.K (vs.take r)) (x:Int));rw[J];exact hlx.1) (by show D.n.u7 (ix (bj D.K (vs.take r)) (y:Int));rw[M];exact hly.1) (by show(ah (ix (bj D.K (vs.take r)) (x:Int)))<=1000;rw[J];omega)
   (λs s0 s1=>by show _/\_/\_<(ah (ix (bj D.K (vs.take r)) (y:Int)):Int);rw[M,hly.2];exact U.plc s c s0 s1 ax hc)
  obtain⟨z,ZH,hA,C⟩:=dt hA;have C:cK ZH ad z=aa (iL (ix vs (r:Int))):=by
   rw[C,Bu];show aa (iL ((ix (bj D.K (vs.take r)) (x:Int)).map (D.n.rU D.plc (ix (bj D.K (vs.take r)) (y:Int)) c r)))=_;rw[J,M]
  have GP:=R _ (bh (l:=vs) (n:=(r:Int)) ax ax)
  have tk:=lZ (w:=vs) (k:=r) ax
  have iD:=Fp (K:=D.K) (vs:=vs.take r) (l:=ix vs (r:Int));generalize ix vs (r:Int)=l at *;have hN1:=UM {D with K:=bj D.K (vs.take r)} _ p Z W l (Cg hn GP.1) (λk hk=>Cg hn (hDr.st k hk).1) ax (λe=>by have h0:ah (bj D.K (vs.take r))=0:=(by dsimp only at e;rw[e];rfl);omega) aR
  obtain⟨rv,τ,hN,rfl,P,hlen⟩:=dt hN1;clear hN1;have S:=P.has (.old (ah σ)) _ zu;rw[P.old]at S;have Q:ah (idxs (bj D.K (vs.take r)) (vs.take r))=r:=oL
  generalize idxs (bj D.K (vs.take r)) (vs.take r)=row at *;simp[-aK,N,GV,hA,C,hN,S];refine⟨⟨Q,iB⟩,ax,ax,a8 (r+1,_) (by simp[Q]) rfl ⟨aR,?_⟩ aR⟩
  dsimp only;rw[tk,iD,Ce];rw[UN]at P;have:=P.put (b:=ah σ) (if_pos rfl) (gr (row ++ [(((bj D.K (vs.take r)).idxOf l:Nat):Int)]));have e:gr (row ++ [(((bj D.K (vs.take r)).idxOf l:Nat):Int)])=⟨ab,row.map AV.int ++ [.int (((bj D.K (vs.take r)).idxOf l:Nat):Int)],.live⟩:=aA
  rw[<-e];refine this.Cd λi B m=>?_;unfold vc at m ⊢;split
  .rename_i hi;simpa[hi]using m
  .rename_i hi;simpa[hi]using m
 .have er:r=aj D.n.aM:=by omega
  have N:¬(r:Int)<D.n.aM:=ax
  rw[gN ax]at W hb GV o J M
  have Q:ah (idxs (bj D.K vs) vs)=r:=oL
  simp[-aK,N];refine Cf hb aA Q.symm ?_
  have d:=W.put (b:=ah σ) (aD rfl) ⟨ab,(idxs (bj D.K vs) vs).map .int,.dead⟩;generalize E:idxs (bj D.K vs) vs=row at *;generalize anh:aV Z (ah σ) ⟨ab,row.map .int,.dead⟩=j at *;have si:=d.has .v _ rfl;unfold Vd.box at si;have e1:dh (p .bl) (ah D.BL) = .sl (p .bl) (ah D.BL) 0 (ah D.BL):=aC ax
  have X:=d.has .bl _ (if_neg λe=>by have h0:ah D.BL=0:=(by dsimp only at e;rw[e];rfl);omega)
  have F:=d.has (.rw x) _ (aD a);unfold Vd.vJ at X;unfold Vd.lE at F;have A:∀K,Vd.row {D with K:=K}=D.row:=λ_=>rfl
  have G:∀K,Vd.cv {D with K:=K}=D.cv:=λ_=>rfl
  have e2:ix (af (ah D.BL)) (x:Int)=x:=by rw[bt iQ];simp
  have e3:ix (af (ah D.BL)) (0+(x:Int)*1)=x:=by rw[<-e2];congr 1;omega
  have e4:ix (af (ah (D.row x))) (c:Int)=c:=by rw[bt (by simpa using g)];simp
  have e5:ix (af (ah (D.row x))) (0+(c:Int)*1)=c:=by rw[<-e4];congr 1;omega
  simp only[A,G]at X F;simp[-aK,si,e1,X,F,A,G,e2,e3,e4,e5,a,g];have H:∀i B,O i=aa B->vc (vc O (ah σ) (gr row)) (ah σ) ⟨ab,row.map .int,.dead⟩ i=aa B:=λi B m=>by
   have T:=h.lt (t:=.old i) m;rw[h.old]at T;simp[vc,show i ≠ ah σ by omega,m]
  have ani:=d.lt (t:=.rw x) (aD a)
  by_cases C:D.cv x c=[]
  .have e6:dh (p (.cl x c)) (ah (D.cv x c)) = .aJ:=by rw[C];rfl
   have hpu:∀B:aO,aQ (j ++ [B]) (p (.rw x))=_:=λB=>iu (r:=[B]) F;simp[-aK,e6,hpu,e2,e3,e4,e5,a,g];refine⟨ax,λt=>if t = .cl x c then (ah j) else p t,aA,?_⟩
   have hw:[row] ≠ []:=aA
   have UW:∀t,t ≠ Tg.cl x c->(λt=>if t=Tg.cl x c then (ah j) else p t) t=p t:=λt ht=>aC ht
   have LV:(λt=>if t=Tg.cl x c then (ah j) else p t) (.cl x c)=ah j:=aD rfl
   generalize (λt=>if t=Tg.cl x c then (ah j) else p t)=p' at *
   have anj:p (.rw x)<ah (j ++ [(⟨ab,[wI row],.live⟩:aO)]):=aT
   have Y:VS (Vd.dS {D with K:=bj D.K vs} x c [row]) O p' _:=(d.dS a g UW hw (τ:=aV (j ++ [⟨ab,[wI row],.live⟩]) (p (.rw x)) ((Vd.dS {D with K:=bj D.K vs} x c [row]).lE p' x)) (by rw[LV,bu ax];exact gZ) (by rw[cQ anj])
    (λt B T h2 m=>by rw[bu (d.ne (t:=.rw x) (aD a) m (Ne.symm T))];exact iu (d.has t B m))
    (λt B T m=>by have:=d.lt m;omega)).Cd H
   rw[UU (D:={D with K:=bj D.K vs}) a g UW hw,LV]at Y
   simp only[A,G]at Y;show VS (D.comb x c y) O p' _;unfold Vd.comb;rw[I,E,show(AV.sl (ah j) 1 0 1).cells=[AV.sl (ah j) 1 0 1]from rfl,tD,LU,C];simpa[Vd.dS,A]using Y
  .have e6:dh (p (.cl x c)) (ah (D.cv x c)) = .sl (p (.cl x c)) (ah (D.cv x c)) 0 (ah (D.cv x c)):=aC λe=>C (eK e)
   have hcv:=d.has (.cl x c) _ (aD ⟨a,g,C⟩);simp only[G]at hcv;have e7:p (.cl x c) ≠ p (.rw x):=d.ne (t:=.cl x c) (u:=.rw x) (aD ⟨a,g,C⟩) (aD a) aA
   have hg:∀B,aQ (aV j (p (.cl x c)) B) (p (.rw x))=aQ j (p (.rw x)):=λB=>bu e7;simp[-aK,e6,hcv,F,e2,e3,e4,e5,a,g,hg];refine⟨ax,ax,p,rfl,?_⟩
   have hw:D.cv x c ++ [row] ≠ []:=aA
   have Y:VS (Vd.dS {D with K:=bj D.K vs} x c (D.cv x c ++ [row])) O p _:=(d.dS a g (p' :=p) (λ_ _=>rfl) hw (τ:=aV (aV j (p (.cl x c)) ⟨ab,(D.cv x c).map wI ++ [wI row],.live⟩) (p (.rw x)) ((Vd.dS {D with K:=bj D.K vs} x c (D.cv x c ++ [row])).lE p x)) (by rw[bu e7.symm,cQ (d.lt (t:=.cl x c) (aD ⟨a,g,C⟩))];simp) (by rw[cQ (by rw[cV];exact ani)])
    (λt B T h2 m=>by rw[bu (d.ne (t:=.rw x) (aD a) m (Ne.symm T)),bu (d.ne (t:=.cl x c) (aD ⟨a,g,C⟩) m (Ne.symm h2))];exact d.has t B m)
    (λt B T m=>d.ne m (u:=.cl x c) (aD ⟨a,g,C⟩) T)).Cd H
   rw[UU (D:={D with K:=bj D.K vs}) a g (λ_ _=>rfl) hw]at Y
   simp only[A,G]at Y;show VS (D.comb x c y) O p _;unfold Vd.comb;rw[I,E,show(AV.sl (p (Tg.cl x c)) (ah (D.cv x c)+1) 0 (ah (D.cv x c)+1)).cells=[AV.sl (p (Tg.cl x c)) (ah (D.cv x c)+1) 0 (ah (D.cv x c)+1)]from rfl,tD,LU];simpa[Vd.dS,A]using Y
def Vd.iN (D:Vd) (x:Nat):al:=(af (aj D.n.aG)).map λ(i:Nat)=>(ix D.K (x:Int)).map λs=>ix (ix D.n.aH s) (i:Int)
structure nT (P:ak->Prop) (D:Vd):Prop where
 ok:vg D
 nd:D.K.Nodup
 pr:∀k∈D.K,P k
 h0:0<ah D.K/\ix D.K 0=D.n.bQ
 bp:∀x:Nat,x<ah D.IN->x<ah D.K/\ix D.IN (x:Int)=idxs D.K (D.iN x)/\∀v∈D.iN x,v∈D.K
 rl:∀x:Nat,x<ah D.BL->ah (D.row x)=aj D.n.ay
 bl:∀x c y:Nat,x<ah D.BL->c<aj D.n.ay->y<ah (D.cv x c)->x<ah D.K/\y<ah D.K/\ix (D.cv x c) (y:Int)=idxs D.K (D.eQ x c y)/\∀v∈D.eQ x c y,v∈D.K
def wW(h:x<ah K):ix (K++r) (x:Int)=ix K (x:Int):=by
 rw[bt aT,bt h,te]
def UX(h:∀v∈vs,v∈K):idxs (K++r) vs=idxs K vs:=
 fm λv a=>by rw[UO (h v a)]
def ank(h:K.Nodup):(jr K l).Nodup:=by
 unfold jr;split
 .exact h
 .rename_i g
  rw[uy];exact⟨h,aA,λa i b d=>by simp at d;subst d;exact λe=>g (e▸i)⟩
def UY:∀{vs K:al},K.Nodup->(bj K vs).Nodup
 | [],_,h=>h
 |v::vs,K,h=>UY (vs:=vs) (ank h)
variable{P:ak->Prop}
def nT.grow(h:nT P D)(hs:∀v∈vs,D.n.u7 v/\ah v=ah D.n.bQ) (hp:∀v∈vs,P v):nT P {D with K:=bj D.K vs}:=by
 obtain⟨r,e,hr⟩:=zw vs D.K;have ha:∀x,x<ah D.K->Vd.iN {D with K:=bj D.K vs} x=D.iN x:=λx hx=>by
  unfold Vd.iN;dsimp only;rw[e,wW hx]
 have hn:∀x c y,x<ah D.K->y<ah D.K->Vd.eQ {D with K:=bj D.K vs} x c y=D.eQ x c y:=λx c y hx hy=>by
  unfold Vd.eQ;dsimp only;rw[e,wW hx,wW hy]
 refine⟨h.ok.bj hs,UY h.nd,Fo h.pr hp,?_,λx hx=>?_,h.rl,λx c y hx hc hy=>?_⟩
 .dsimp only
  rw[e];have:=wW (r:=r) h.h0.1;exact⟨by simp;have:=h.h0.1;omega,by rw[show(0:Int)=((0:Nat):Int)by rfl,this];exact h.h0.2⟩
 .obtain⟨h1,h2,h3⟩:=h.bp x hx
  rw[ha x h1];dsimp only;rw[e];exact⟨aT,by rw[UX h3];exact h2,λv hv=>by simp[h3 v hv]⟩
 .obtain⟨h1,h2,h3,h4⟩:=h.bl x c y hx hc hy
  rw[hn x c y h1 h2];dsimp only;rw[e];exact⟨aT,aT,by rw[UX h4];exact h3,λv hv=>by simp[h4 v hv]⟩
def LW [Inhabited α]{l:List α}{v:α}{j:Nat}(a:j<ah l+1):ix (l ++ [v]) (j:Int)=if j<ah l then ix l (j:Int)else v:=by
 rw[bt aT,List.getElem_append]
 split
 .rename_i h;rw[bt h]
 .have:j-ah l=0:=by omega
  simp[this]
def nT.dS(h:nT P D)(hx:x<ah D.BL) (hc:c<aj D.n.ay) (UZ:x<ah D.K) (GZ:y<ah D.K) (hl:ah (D.cv x c)=y) (hv:∀v∈D.eQ x c y,v∈D.K):nT P (D.dS x c (D.cv x c ++ [idxs D.K (D.eQ x c y)])):=by
 have yy : c<ah (D.row x):=by rw[h.rl x hx];exact hc
 refine⟨⟨h.ok.ok,h.ok.st,h.ok.el,h.ok.plc⟩,h.nd,h.pr,h.h0,h.bp,λx' lh =>?_,λx' c' y' lh U0 tZ =>?_⟩
 .rw[wV hx]
  exact h.rl x' (by simpa[Vd.dS]using lh)
 .have Zl:x' < ah D.BL:=by simpa[Vd.dS]using lh
  rw[zx hx yy]at tZ ⊢;show _/\_/\_=idxs D.K (D.eQ x' c' y')/\∀v∈D.eQ x' c' y', v∈D.K
  by_cases e:x' = x/\c' = c
  .rw[aD e]at tZ ⊢
   obtain⟨rfl,rfl⟩:=e;simp at tZ;rw[LW tZ]
   by_cases cw:y' < ah (D.cv x' c')
   .rw[aD cw]
    exact h.bl x' c' y' Zl U0 cw
   .have:y' = y:=by omega
    subst this;rw[aC cw];exact⟨UZ,GZ,rfl,hv⟩
  .rw[aC e]at tZ ⊢
   exact h.bl x' c' y' Zl U0 tZ
def vg.LY(h:vg D)(hx:x<ah D.K) (hy:y<ah D.K) (hc:(c:Int)<D.n.ay):∀v∈D.eQ x c y,D.n.u7 v/\ah v=ah D.n.bQ:=λv hv=>by
 obtain⟨r,hr,rfl⟩:=cJ.1 hv;have:=cE.1 hr;exact h.rU hx hy ⟨ax,hc⟩ ⟨ax,ax⟩
def vg.LZ(h:vg D)(hx:x<ah D.K):∀v∈D.iN x,D.n.u7 v/\ah v=ah D.n.bQ:=λv hv=>by
 obtain⟨i,hi,rfl⟩:=cJ.1 hv;have:=cE.1 hi;have hk:=h.kx hx;refine⟨λs hs=>?_,by rw[db];exact hk.2⟩
 obtain⟨t,ht,rfl⟩:=cJ.1 hs;have h1:=hk.1 t ht;exact h.ok.aH t i h1.1 h1.2 ax ax
structure G0 (P:ak->Prop) (n:aS) (plc:ak):Prop where
 aft:∀k,P k->∀i,0<=i->i<n.aG->P (k.map λs=>ix (ix n.aH s) i)
 rU:∀k m,P k->P m->∀c r,0<=c->c<n.ay->0<=r->r<n.aM->P (k.map (n.rU plc m c r))
def nT.kx(h:nT P D)(hx:x<ah D.K):P (ix D.K (x:Int)):=h.pr _ (bh ax ax)
def nT.comb(h:nT P D) (hP:G0 P D.n D.plc)(hx:x<ah D.BL) (hc:c<aj D.n.ay) (UZ:x<ah D.K) (GZ:y<ah D.K) (hl:ah (D.cv x c)=y):nT P (D.comb x c y):=by
 have h1:=h.grow (vs:=D.eQ x c y) (h.ok.LY UZ GZ ax) λv hv=>by
  obtain⟨r,hr,rfl⟩:=cJ.1 hv;have:=cE.1 hr;exact hP.rU _ _ (h.kx UZ) (h.kx GZ) c r ax ax ax ax
 obtain⟨r,e,hr⟩:=zw (D.eQ x c y) D.K;have hn:Vd.eQ {D with K:=bj D.K (D.eQ x c y)} x c y=D.eQ x c y:=by
  show(af (aj D.n.aM)).map (λ(r:Nat)=>(ix (bj D.K (D.eQ x c y)) (x:Int)).map (D.n.rU D.plc (ix (bj D.K (D.eQ x c y)) (y:Int)) c r))=_;rw[e,wW UZ,wW GZ]
  rfl
 have h2:=h1.dS (x:=x) (c:=c) (y:=y) hx hc (by dsimp only;rw[e];simp;omega) (by dsimp only;rw[e];simp;omega) hl (by rw[hn];exact λv hv=>ve (.inl hv))
 rw[hn]at h2;exact h2
def Fq(b:x<ah D.BL) (d:c<ah (D.row x)) (a c' : Nat):ah ((D.comb x c y).cv a c')=ah (D.cv a c')+if a = x/\c' = c then 1 else 0:=by
 have:(D.comb x c y).cv a c' = (Vd.dS {D with K:=bj D.K (D.eQ x c y)} x c (D.cv x c ++ [idxs (bj D.K (D.eQ x c y)) (D.eQ x c y)])).cv a c' :=rfl
 rw[this,zx (D:={D with K:=bj D.K (D.eQ x c y)}) b d]
 split
 .rename_i e;rw[e.1,e.2];simp
 .rfl
def U7:∃r,(D.comb x c y).K=D.K++r/\ah r<=aj D.n.aM:=by
 obtain⟨r,e,a⟩:=zw (D.eQ x c y) D.K;exact⟨r,e,by simpa[Vd.eQ]using a⟩
def Cj:ah (D.comb x c y).BL=ah D.BL:=by simp[Vd.comb]
def anl(a:x<ah D.BL) (z:Nat):ah ((D.comb x c y).row z)=ah (D.row z):=wV (D:={D with K:=bj D.K (D.eQ x c y)}) a z
structure ya (D:Vd) (x y c:Nat):Prop where
 bl:ah D.BL=x+1
 lo:∀x' c', x' < x->c' < aj D.n.ay->ah (D.cv x' c')=if x' < y\/(x' = y/\c' < c)then x+1 else x
 hi:∀c', c' < aj D.n.ay->ah (D.cv x c')=if c' < c then y+1 else y
def ya.next(h:ya D x y (aj D.n.ay)):ya D x (y+1) 0:=by
 refine⟨h.bl,λx' c' h1 h2=>?_,λc' h2=>?_⟩
 .rw[h.lo x' c' h1 h2]
  by_cases e:x' < y\/x' = y
  .rw[aD ax,aD ax]
  .rw[aC ax,aC ax]
 .rw[h.hi c' h2,aD h2,aC ax]
abbrev L0 (b:Nat) (x:Nat):ao:=[.ptr b 16 0,.int x,.aW,.aW,.aW,.aW,.aW,.aW,.aW,.aW,.aW,.aW,.aW]
def Ck:IC:=(.seq (.seq (.cM TN)
 (.block 4 (.loop TP)))
 (.seq (.cM TQ)
 (.cond 99 (.seq (.cM TR)
 .ret) .skip)))
def ya.one(h:ya D x y c) (hc:c<aj D.n.ay) (hr:∀z,z<ah D.BL->ah (D.row z)=aj D.n.ay) (hy:y=x):ya (D.comb x c y) x y (c+1):=by
 have hb:=h.bl;have pD:∀x' c', ah ((D.comb x c y).cv x' c')=ah (D.cv x' c')+if x' = x/\c' = c then 1 else 0:=λx' c' =>Fq ax (by rw[hr x ax];exact hc) x' c'
 refine⟨by rw[Cj];exact hb,λx' c' h1 h2=>?_,λc' h2=>?_⟩
 .rw[pD,h.lo x' c' h1 h2,aC (show ¬(x' = x/\c' = c)by omega),aD ax,aD ax]
 .rw[pD,h.hi c' h2]
  by_cases e:c' = c
  .rw[aC ax,aD ax,aD ax]
  .rw[aC (show ¬(x=x/\c' = c)by omega)]
   by_cases e2:c' < c
   .rw[aD e2,aD ax]
   .rw[aC e2,aC ax]<;>omega
def ya.two(h:ya D x y c) (hc:c<aj D.n.ay) (hr:∀z,z<ah D.BL->ah (D.row z)=aj D.n.ay) (hy:y<x):ya ((D.comb x c y).comb y c x) x y (c+1):=by
 have hb:=h.bl;have pD:∀x' c', ah ((D.comb x c y).cv x' c')=ah (D.cv x' c')+if x' = x/\c' = c then 1 else 0:=λx' c' =>Fq ax (by rw[hr x ax];exact hc) x' c'
 have D6:∀x' c', ah (((D.comb x c y).comb y c x).cv x' c')=ah ((D.comb x c y).cv x' c')+if x' = y/\c' = c then 1 else 0:=λx' c' =>Fq (by rw[Cj];omega) (by rw[anl ax,hr y ax];exact hc) x' c'
 refine⟨by rw[Cj,Cj];exact hb,λx' c' h1 h2=>?_,λc' h2=>?_⟩
 .rw[D6,pD,h.lo x' c' h1 h2,aC (show ¬(x' = x/\c' = c)by omega)]
  by_cases e:x' = y/\c' = c
  .rw[aD e,aC ax,aD ax]
  .rw[aC e]
   by_cases e2:x' < y\/x' = y/\c' < c
   .rw[aD e2,aD ax]
   .rw[aC e2,aC ax]<;>omega
 .rw[D6,pD,h.hi c' h2,aC (show ¬(x=y/\c' = c)by omega)]
  by_cases e:c' = c
  .rw[aC ax,aD ax,aD ax]
  .rw[aC (show ¬(x=x/\c' = c)by omega)]
   by_cases e2:c' < c
   .rw[aD e2,aD ax]
   .rw[aC e2,aC ax]<;>omega
structure Fs (P:ak->Prop) (n:aS) (plc:ak) (O:Nat->Option aO) (b x:Nat) (D:Vd) (p:Tg->Nat) (σ:aq):Prop where
 s:VS D O p σ
 v:nT P D
 n:D.n=n
 plc:D.plc=plc
 p:p .v=b
 i:ah D.IN=x+1
 x:x<ah D.K
variable{plc:ak}
def Fs.comb(h:Fs P n plc O b x D p σ) (hP:G0 P n plc){z:Nat}(hy:y<ah D.BL) (hz:z<ah D.K) (GZ:y<ah D.K) (hc:c<aj n.ay) (hl:ah (D.cv y c)=z) (hK:ah D.K<=1000) (tW:z<=1000) :
  ∃τ p', L BO [.ptr b 16 0,.int y,.int c,.int z] σ=aa (.bY [],τ)/\Fs P n plc O b x (D.comb y c z) p' τ:=by
 have hn:=h.n;have hp:=h.plc;have pD:c<aj D.n.ay:=by rw[hn];exact hc
 have h1:=ang D O p σ h.s h.v.ok y c z GZ hz ax hy (by rw[h.v.rl y hy];exact pD) hK ax
 obtain⟨r,τ,h2,rfl,p', h3,h4⟩:=dt h1;rw[h.p]at h2 h3;obtain⟨e,he,_⟩:=U7 (D:=D) (x:=y) (c:=c) (y:=z);exact⟨τ,p', h2,h4,h.v.comb (by rw[hn,hp];exact hP) hy pD GZ hz hl,hn,hp,h3,h.i,by rw[he];simp;have:=h.x;omega⟩
def anm(hP:G0 P n plc){Q:Ex->St->Prop}
  (D:Vd) (p:Tg->Nat) (σ:aq) (J:Fs P n plc O b x D p σ) (hK:ah D.K<=600) (hl:ya D x 0 0)
  (h1:∀D' p' τ,Fs P n plc O b x D' p' τ->ya D' x (x+1) 0->ah D'.K<=512->Q .fe ⟨L0 b x,ab,τ⟩)
  (M:∀D' p' τ,Fs P n plc O b x D' p' τ->512<ah D'.K->Q .ret ⟨[.aW,.aW,.aW,.aW,.aW,.aW,.aW,.aW,.aW,.aW,.aW,.aW,.bool ae],ab,τ⟩):WK L Ck (L0 b x) ab σ Q:=by
 unfold Ck;have hx0:=J.x;have u:=J.v.ok.ok;rw[J.n]at u;have hnc:=u.ay;have hnr:=u.aM;simp[-aK];refine⟨ax,?_⟩
 refine bB (λq:Nat×aq=>[(6,.int q.1)]) (λq=>q.2) (λq=>q.1<=x+1/\∃D' p', Fs P n plc O b x D' p' q.2/\ah D'.K<=600/\ya D' x q.1 0) (λq=>x+1-q.1) (0,σ) bS ⟨aA,D,p,J,hK,hl⟩ ?_
 rintro⟨y,w⟩ ⟨y0,N,R,g,S,A⟩;dsimp only at y0 g A ⊢;have o:=g.s.has .v _ rfl;unfold Vd.box at o;rw[g.p,g.n]at o
 by_cases hy:y<x+1
 .have T :=bz (show(y:Int)<(x:Int)+1 by omega)
  simp[-aK,T, o];refine bB (λq:Nat×aq=>[(8,.int q.1)]) (λq=>q.2) (λq=>q.1<=aj n.ay/\∃D' p', Fs P n plc O b x D' p' q.2/\ah D'.K<=600/\ya D' x y q.1) (λq=>aj n.ay-q.1) (0,w) bS ⟨aA,N,R,g,S,A⟩ ?_
  rintro⟨c,U⟩ ⟨c0,B,p2,a,V,d⟩;dsimp only at c0 a d ⊢
  by_cases W:c<aj n.ay
  .have r :=bz (show(c:Int)<n.ay by omega)
   have j:c<aj B.n.ay:=by rw[a.n];exact W
   have Dp:=d.bl;have X:=a.x;obtain⟨E,p3,F,e⟩:=a.comb hP (y:=x) (c:=c) (z:=y) ax ax X W (by rw[d.hi c j,aC ax]) ax ax
   obtain⟨e1,Y,Z⟩:=U7 (D:=B) (x:=x) (c:=c) (y:=y);rw[a.n]at Z;have arE:ah (B.comb x c y).K<=664:=by rw[Y,bM];omega
   by_cases G:y<x
   .have l :=bz (show(y:Int)<(x:Int)by omega)
    obtain⟨H,p4,hC2,m⟩:=e.comb hP (y:=y) (c:=c) (z:=x) (by rw[Cj];omega) e.x (by have:=e.x;omega) W (by rw[Fq ax (by rw[a.v.rl x ax];exact j),d.lo y c G j,aC ax,aC ax]<;>omega) ax ax
    have C:=d.two j a.v.rl G;have i:=m.s.has .v _ rfl;unfold Vd.box at i;rw[m.p,m.n]at i;simp[-aK,r, l, F,hC2,i];generalize (B.comb x c y).comb y c x=I at *;exact⟨λh=>M I p4 H m ax,λh=>⟨ax,a8 (c+1,H) aA rfl ⟨aR,I,⟨p4,m⟩,ax,C⟩ aR⟩⟩
   .have l :=eG (show ¬(y:Int)<(x:Int)by omega)
    have C:=d.one j a.v.rl ax
    have i:=e.s.has .v _ rfl;unfold Vd.box at i;rw[e.p,e.n]at i;simp[-aK,r, l, F,i];generalize B.comb x c y=I at *;exact⟨λh=>M I p3 E e ax,λh=>⟨ax,a8 (c+1,E) aA rfl ⟨aR,I,⟨p3,e⟩,ax,C⟩ aR⟩⟩
  .have r :=eG (show ¬(c:Int)<n.ay by omega)
   have ec:c=aj B.n.ay:=by rw[a.n];omega
   rw[ec]at d;have Ft:=d.next
   simp[-aK,r];exact⟨ax,a8 (y+1,U) aA rfl ⟨aR,B,⟨p2,a⟩,V,Ft⟩ aR⟩
 .have ey:y=x+1:=by omega
  subst ey;simp[-aK,o];exact⟨λh=>M N R w g ax,λh=>h1 N R w g A ax⟩
def VS.step{D: Vd}{p: Tg->Nat}(h:VS D O p σ) (Ch:Tg->Prop)
  (h1:∀t,¬Ch t->D'.cont O p' t=D.cont O p t/\p' t=p t)
  (h2:∀t B,Ch t->D'.cont O p' t=aa B->aQ τ (p' t)=aa B)
  (h3:∀t B,¬Ch t->D.cont O p t=aa B->aQ τ (p t)=aa B)
  (h4:∀t B,Ch t->D'.cont O p' t=aa B->((∃A,D.cont O p t=aa A)/\p' t=p t)\/ah σ<=p' t)
  (h5:∀t u,Ch t->Ch u->ah σ<=p' t->p' t=p' u->t=u)
  (h6:∀i,¬Ch (.old i)):VS D' O p' τ:=by
 have key:∀t B,D'.cont O p' t=aa B->((∃A,D.cont O p t=aa A)/\p' t=p t)\/(Ch t/\ah σ<=p' t):=λt B hB=>by
  by_cases hc:Ch t
  .exact(h4 t B hc hB).imp id λq=>⟨hc,q⟩
  .obtain⟨e1,e2⟩:=h1 t hc
   rw[e1]at hB;exact .inl ⟨⟨B,hB⟩,e2⟩
 refine⟨λt B hB=>?_,λt u A B hA hB e=>?_,λi=>by rw[(h1 _ (h6 i)).2];exact h.old i⟩
 .by_cases hc:Ch t
  .exact h2 t B hc hB
  .obtain⟨e1,e2⟩:=h1 t hc
   rw[e1]at hB;rw[e2];exact h3 t B hc hB
 .rcases key t A hA with⟨⟨A', wU⟩,e1⟩|⟨c1,e1⟩
  .rcases key u B hB with⟨⟨B', Ai⟩,e2⟩|⟨c2,e2⟩
   .exact h.inj t u A' B' wU Ai (by rw[<-e1,<-e2];exact e)
   .have:=h.lt wU; omega
  .rcases key u B hB with⟨⟨B', Ai⟩,e2⟩|⟨c2,e2⟩
   .have:=h.lt Ai; omega
   .exact h5 t u c1 c2 e1 e
def yb:IC:=(.seq (.cM TM) Ck)
def L1:IC:=(.seq (.cM TL) yb)
def Vd.fF (D:Vd) (row:ak):Vd:={D with IN:=D.IN ++ [row]}
def VS.fF{p: Tg->Nat}(h:VS D O p σ){row:ak}(hp:∀t,t ≠ .bp->p' t=p t)
  (hi:aQ τ (p' .bp)=aa ⟨ab,(D.IN ++ [row]).map wI,.live⟩) (hv:aQ τ (p .v)=aa ((D.fF row).box p')) (h3:∀t B,t ≠ .v->t ≠ .bp->D.cont O p t=aa B->aQ τ (p t)=aa B)
  (h4:(D.IN ≠ []/\p' .bp=p .bp)\/ah σ<=p' .bp):VS (D.fF row) O p' τ:=by
 have jl:(D.fF row).cont O p' .bp=aa ⟨ab,(D.IN ++ [row]).map wI,.live⟩:=aC (by simp[Vd.fF])
 refine h.step (λt=>t = .v\/t = .bp) (λt ht=>?_) (λt B ht hB=>?_) (λt B ht hB=>h3 t B (λe=>ht (.inl e)) (λe=>ht (.inr e)) hB) (λt B ht hB=>?_) (λt u ht hu hl e=>?_) λi=>aA
 .have h1:t ≠ .v:=λe=>ht (.inl e)
  have h2:t ≠ .bp:=λe=>ht (.inr e);refine⟨?_,hp t h2⟩;cases t with
  |v=>exact absurd rfl h1
  |bp=>exact absurd rfl h2
  |bl=>
   show(if D.BL=[]then ab else aa ((D.fF row).vJ p'))=if D.BL=[]then ab else aa (D.vJ p)
   have:(D.fF row).vJ p' = D.vJ p:=by
    unfold Vd.vJ;simp only[λy=>hp (.rw y) aA]
    rfl
   rw[this]
  |rw x=>
   show(if x<ah D.BL then aa ((D.fF row).lE p' x)else ab)=if x<ah D.BL then aa (D.lE p x)else ab
   have:(D.fF row).lE p' x=D.lE p x:=by
    unfold Vd.lE;simp only[λy=>hp (.cl x y) aA]
    rfl
   rw[this]
  |_=>rfl
 .rcases ht with rfl|rfl
  .rw[hp _ aA,hv];exact hB
  .rw[jl]at hB;rw[hi];exact hB
 .rcases ht with rfl|rfl
  .exact .inl ⟨⟨_,rfl⟩,hp _ aA⟩
  .exact h4.imp (λq=>⟨⟨_,aC q.1⟩,q.2⟩) id
 .rcases ht with rfl|rfl
  .rw[hp _ aA]at hl
   have:=h.lt (t:=.v) rfl;omega
  .rcases hu with rfl|rfl
   .rw[hp .v aA]at e
    have:=h.lt (t:=.v) rfl;omega
   .rfl
def ann{Q:Ex->St->Prop}{row:ak}
  (D:Vd) (p:Tg->Nat) (σ:aq) (b:VS D O p σ) (H:x<=1000) (I:ah D.IN=x) {i j:AV}
  (g:∀p' τ,VS (D.fF row) O p' τ->p' .v=p .v->WK L yb (L0 (p .v) x) ab τ Q):WK L L1 [.ptr (p .v) 16 0,.int x,i,j,wI row,.aW,.aW,.aW,.aW,.aW,.aW,.aW,.aW] ab σ Q:=by
 unfold L1;have m:=b.has .v _ rfl;unfold Vd.box at m;have q:(wI row).cells=[wI row]:=rfl;have s:bW (wI row)=ad:=rfl;have z:=b.lt (t:=.v) rfl
 by_cases a:D.IN=[]
 .have n:dh (p .bp) (ah D.IN) = .aJ:=by rw[a];rfl
  have b1:∀B:aO,aQ (σ ++ [B]) (p .v)=_:=λB=>iu (r:=[B]) m;simp[-aK,m,n,b1,q,s];have d:∀t,t ≠ Tg.bp->(λt=>if t=Tg.bp then (ah σ) else p t) t=p t:=λt A=>aC A
  have l:(λt=>if t=Tg.bp then (ah σ) else p t) .bp=ah σ:=aD rfl
  generalize (λt=>if t=Tg.bp then (ah σ) else p t)=p' at *
  have C:p .v<ah (σ ++ [(⟨ab,[wI row],.live⟩:aO)]):=aT
  have E:(D.fF row).box p' = _:=rfl;refine g p' _ (b.fF d (by rw[l,bu ax,gZ,a];rfl) ?_ (λt B g w h=>by rw[bu (b.ne (t:=.v) rfl h (Ne.symm g))];exact iu (b.has t B h)) (.inr ax)) (d _ aA)
  rw[cQ C];unfold Vd.box;simp[Vd.fF,a,l,d,dh]
 .have o:=b.has .bp _ (aC a)
  have F:ah D.IN ≠ 0:=λe=>a (eK e);have n:dh (p .bp) (ah D.IN) = .sl (p .bp) (ah D.IN) 0 (ah D.IN):=aC ax
  have y:p .bp ≠ p .v:=b.ne (t:=.bp) (u:=.v) (aC a) rfl aA
  have b1:∀(Q:aq) B,aQ (aV Q (p .bp) B) (p .v)=aQ Q (p .v):=λQ B=>bu y;have G:=b.lt (t:=.bp) (aC a);simp[-aK,m,n,o,b1,q,s];refine⟨ax,g p _ (b.fF (λ_ _=>rfl) (by rw[bu y.symm,cQ G];simp) ?_ (λt B g w h=>by rw[bu (b.ne (t:=.v) rfl h (Ne.symm g)),bu (b.ne (t:=.bp) (aC a) h (Ne.symm w))];exact b.has t B h) (.inl ⟨a,rfl⟩)) rfl⟩
  rw[cQ (by rw[cV];exact z)]
  unfold Vd.box;simp[Vd.fF,dh]
def Vd.ck (D:Vd):Vd:={D with BL:=D.BL ++ [ag (aj D.n.ay) []]}
def wX:D.ck.row y=if y=ah D.BL then ag (aj D.n.ay) []else D.row y:=by
 unfold Vd.row Vd.ck;dsimp only
 by_cases h:y<ah D.BL+1
 .rw[LW h]
  by_cases e:y<ah D.BL
  .rw[aD e,aC ax]
  .rw[aC e,aD ax]
 .rw[aC ax]
  unfold ix;rw[fI,fI,il aT,il ax]
def lF [Inhabited α]{a:α}(h:c<k):ix (ag k a) (c:Int)=a:=by
 rw[bt du];simp
def zy:D.ck.cv y c=if y=ah D.BL then[]else D.cv y c:=by
 unfold Vd.cv;rw[wX];split
 .by_cases h:c<aj D.n.ay
  .exact lF h
  .unfold ix
   rw[fI,il aT];rfl
 .rfl
def VS.ck{p: Tg->Nat}(h:VS D O p σ) (hp:∀t,t ≠ .bl->t ≠ .rw (ah D.BL)->p' t=p t)
  (hi:aQ τ (p' .bl)=aa (D.ck.vJ p')) (hr:aQ τ (p' (.rw (ah D.BL)))=aa ⟨ab,ag (aj D.n.ay) .aJ,.live⟩) (hv:aQ τ (p .v)=aa (D.ck.box p'))
  (h3:∀t B,t ≠ .v->t ≠ .bl->D.cont O p t=aa B->aQ τ (p t)=aa B)
  (h4:(D.BL ≠ []/\p' .bl=p .bl)\/ah σ<=p' .bl) (h5:ah σ<=p' (.rw (ah D.BL))) (h6:p' .bl ≠ p' (.rw (ah D.BL))):VS D.ck O p' τ:=by
 have hl:ah D.ck.BL=ah D.BL+1:=by simp[Vd.ck]
 have jl:D.ck.cont O p' .bl=aa (D.ck.vJ p'):=aC (by simp[Vd.ck])
 have xZ:D.ck.cont O p' (.rw (ah D.BL))=aa ⟨ab,ag (aj D.n.ay) .aJ,.live⟩:=by
  show(if (ah D.BL)<ah D.ck.BL then aa (D.ck.lE p' (ah D.BL))else ab)=_
  rw[hl,aD ax]
  unfold Vd.lE;rw[wX,aD rfl]
  congr 2
  apply gF aA
  intro i h1 h2;simp[zy,dh]
 have yB:=h.lt (t:=.v) rfl;refine h.step (λt=>t = .v\/t = .bl\/t = .rw (ah D.BL)) (λt ht=>?_) (λt B ht hB=>?_) (λt B ht hB=>h3 t B (λe=>ht (.inl e)) (λe=>ht (.inr (.inl e))) hB) (λt B ht hB=>?_) (λt u ht hu cw e=>?_) λi=>aA
 .have h1:t ≠ .v:=λe=>ht (.inl e)
  have h2:t ≠ .bl:=λe=>ht (.inr (.inl e));have AG : t ≠ .rw (ah D.BL):=λe=>ht (.inr (.inr e));refine⟨?_,hp t h2 AG⟩;cases t with
  |v=>exact absurd rfl h1
  |bl=>exact absurd rfl h2
  |rw x=>
   have hx:x ≠ ah D.BL:=λe=>AG fk
   show(if x<ah D.ck.BL then aa (D.ck.lE p' x)else ab)=if x<ah D.BL then aa (D.lE p x)else ab
   have:D.ck.lE p' x=D.lE p x:=by
    unfold Vd.lE;simp only[λy=>hp (.cl x y) aA aA,wX,zy,aC hx]
   rw[this,hl]
   by_cases e:x<ah D.BL
   .rw[aD e,aD ax]
   .rw[aC e,aC ax]
  |cl x c=>
   show(if x<ah D.ck.BL/\c<ah (D.ck.row x)/\D.ck.cv x c ≠ []then aa (⟨ab,(D.ck.cv x c).map wI,.live⟩:aO)else ab)=if x<ah D.BL/\c<ah (D.row x)/\D.cv x c ≠ []then aa ⟨ab,(D.cv x c).map wI,.live⟩else ab
   rw[hl,wX,zy]
   by_cases e:x=ah D.BL
   .rw[aD e,aD e,aC aA,aC ax]
   .rw[aC e,aC e]
    by_cases e2:x<ah D.BL
    .simp only[e2,show x<ah D.BL+1 by omega]
    .simp only[e2,show ¬x<ah D.BL+1 by omega]
  |_=>rfl
 .rcases ht with rfl|rfl|rfl
  .rw[hp _ aA aA,hv];exact hB
  .rw[jl]at hB;rw[hi];exact hB
  .rw[xZ]at hB;rw[hr];exact hB
 .rcases ht with rfl|rfl|rfl
  .exact .inl ⟨⟨_,rfl⟩,hp _ aA aA⟩
  .exact h4.imp (λq=>⟨⟨_,aC q.1⟩,q.2⟩) id
  .exact .inr h5
 .have pv:=hp .v aA aA
  rcases ht with rfl|rfl|rfl
  .omega
  .rcases hu with rfl|rfl|rfl
   .omega
   .rfl
   .exact absurd e h6
  .rcases hu with rfl|rfl|rfl
   .omega
   .exact absurd e.symm h6
   .rfl
def U8{p: Tg->Nat}(a:∀t,t ≠ .bl->t ≠ .rw (ah D.BL)->p' t=p t):D.ck.vJ p' = ⟨ab,(af (ah D.BL)).map (λx=>AV.sl (p (.rw x)) (ah (D.row x)) 0 (ah (D.row x))) ++ [AV.sl (p' (.rw (ah D.BL))) (aj D.n.ay) 0 (aj D.n.ay)],.live⟩:=by
 unfold Vd.vJ;rw[show (ah D.ck.BL)=ah D.BL+1 by simp[Vd.ck],kL,kk]
 congr 2
 .refine fm λx b=>?_
  have:=cE.1 b;rw[wX,aC ax,a _ aA aT]
 .simp[wX]
def ano{Q:Ex->St->Prop}
  (D:Vd) (p:Tg->Nat) (σ:aq) (g:VS D O p σ) (y:D.n.Ok) (H:x<=1000) (j:ah D.BL=x)
  (i:∀p' τ,VS D.ck O p' τ->p' .v=p .v->WK L Ck (L0 (p .v) x) ab τ Q):WK L yb (L0 (p .v) x) ab σ Q:=by
 unfold yb;have o:=g.has .v _ rfl;unfold Vd.box at o;have z:=y.ay;have I:=g.lt (t:=.v) rfl
 by_cases a:D.BL=[]
 .have q:dh (p .bl) (ah D.BL) = .aJ:=by rw[a];rfl
  have b1:∀B C:aO,aQ (σ ++ [B,C]) (p .v)=_:=λB C=>iu (r:=[B,C]) o;simp[-aK,o,q,b1];refine⟨ax,?_⟩
  have b:∀t,t ≠ Tg.bl->t ≠ Tg.rw (ah D.BL)->(λt=>if t=Tg.bl then (ah σ)+1 else if t=Tg.rw (ah D.BL) then (ah σ) else p t) t=p t:=λt i m=>by
   show(if t=Tg.bl then (ah σ)+1 else if t=Tg.rw (ah D.BL) then (ah σ) else p t)=p t
   rw[aC i,aC m]
  have d:(λt=>if t=Tg.bl then (ah σ)+1 else if t=Tg.rw (ah D.BL) then (ah σ) else p t) .bl=ah σ+1:=aD rfl
  have h:(λt=>if t=Tg.bl then (ah σ)+1 else if t=Tg.rw (ah D.BL) then (ah σ) else p t) (.rw (ah D.BL))=ah σ:=aA
  generalize (λt=>if t=Tg.bl then (ah σ)+1 else if t=Tg.rw (ah D.BL) then (ah σ) else p t)=p' at *
  have s:∀B C:aO,p .v<ah (σ ++ [B,C]):=λB C=>aT
  have A:ah D.BL=0:=by rw[a];rfl
  refine i p' _ (g.ck b ?_ ?_ ?_ (λt B i m j=>by rw[bu (g.ne (t:=.v) rfl j (Ne.symm i))];exact iu (g.has t B j)) (.inr ax) ax ax) (b _ aA aA)
  .rw[d,bu ax,LP,U8 b,h,A]
   rfl
  .rw[h,bu ax,gZ]
  .rw[cQ (s _ _)]
   unfold Vd.box;simp[Vd.ck,a,d,b,dh]
 .have l:=g.has .bl _ (aC a)
  unfold Vd.vJ at l;have q:dh (p .bl) (ah D.BL) = .sl (p .bl) (ah D.BL) 0 (ah D.BL):=aC λe=>a (eK e);have w:p .bl ≠ p .v:=g.ne (t:=.bl) (u:=.v) (aC a) rfl aA
  have E:∀(Q:aq) B,aQ (aV Q (p .bl) B) (p .v)=aQ Q (p .v):=λQ B=>bu w;have b1:∀B:aO,aQ (σ ++ [B]) (p .v)=_:=λB=>iu (r:=[B]) o;have F:∀B:aO,aQ (σ ++ [B]) (p .bl)=_:=λB=>iu (r:=[B]) l;have J:=g.lt (t:=.bl) (aC a);simp[-aK,o,q,l,b1,E,F];refine⟨ax,ax,?_⟩
  have b:∀t,t ≠ Tg.bl->t ≠ Tg.rw (ah D.BL)->(λt=>if t=Tg.rw (ah D.BL) then (ah σ) else p t) t=p t:=λt i m=>aC m
  have d:(λt=>if t=Tg.rw (ah D.BL) then (ah σ) else p t) .bl=p .bl:=aA
  have h:(λt=>if t=Tg.rw (ah D.BL) then (ah σ) else p t) (.rw (ah D.BL))=ah σ:=aA
  generalize (λt=>if t=Tg.rw (ah D.BL) then (ah σ) else p t)=p' at *
  have s:∀B:aO,p .bl<ah (σ ++ [B]):=λB=>aT
  have G:∀B C:aO,p .v<ah (aV (σ ++ [B]) (p .bl) C):=λB C=>by rw[cV];simp;omega
  refine i p' _ (g.ck b ?_ ?_ ?_ (λt B i m j=>by rw[bu (g.ne (t:=.v) rfl j (Ne.symm i)),bu (g.ne (t:=.bl) (aC a) j (Ne.symm m))];exact iu (g.has t B j)) (.inl ⟨a,d⟩) ax ax) (b _ aA aA)
  .rw[d,bu w.symm,cQ (s _),U8 b,h]
  .rw[h,bu ax,bu ax,gZ]
  .rw[cQ (G _ _)]
   unfold Vd.box;simp[Vd.ck,d,b,dh]
def nT.fF(h:nT P D)(hx:x=ah D.IN) (hk:x<ah D.K) (hv:∀v∈D.iN x,v∈D.K):nT P (D.fF (idxs D.K (D.iN x))):=by
 refine⟨⟨h.ok.ok,h.ok.st,h.ok.el,h.ok.plc⟩,h.nd,h.pr,h.h0,λy hy=>?_,h.rl,h.bl⟩;have tZ : y<ah D.IN+1:=by simpa[Vd.fF]using hy
 show y<ah D.K/\ix (D.IN ++ [idxs D.K (D.iN x)]) (y:Int)=idxs D.K (D.iN y)/\∀v∈D.iN y,v∈D.K;rw[LW tZ]
 by_cases e:y<ah D.IN
 .rw[aD e];exact h.bp y e
 .have:y=x:=by omega
  subst this;rw[aC e];exact⟨hk,rfl,hv⟩
def nT.ck(h:nT P D):nT P D.ck:=by
 have hl:ah D.ck.BL=ah D.BL+1:=by simp[Vd.ck]
 refine⟨⟨h.ok.ok,h.ok.st,h.ok.el,h.ok.plc⟩,h.nd,h.pr,h.h0,h.bp,λx hx=>?_,λx c y hx hc hy=>?_⟩
 .rw[wX]
  split
  .simp;rfl
  .exact h.rl x ax
 .rw[zy]at hy ⊢
  by_cases e:x=ah D.BL
  .rw[aD e]at hy;simp at hy
  .rw[aC e]at hy ⊢
   exact h.bl x c y ax hc hy
def clB:IC:=(.seq (.cM TH)
 (.seq (.seq (.cM TJ)
 (.seq (.block 2 (.loop TK)) (.km 4))) L1))
def U9(hP:G0 P n plc){Q:Ex->St->Prop}
  (D:Vd) (p:Tg->Nat) (σ:aq) (h:VS D O p σ) (hV:nT P D) (C:D.n=n) (hDp:D.plc=plc) (hx:x<ah D.K) (hK:ah D.K<=512) (hI:ah D.IN=x) (j:ah D.BL=x) (hl:∀I c', I < x->c' < aj D.n.ay->ah (D.cv I c')=x)
  (H:∀D' p' τ,Fs P n plc O (p .v) x D' p' τ->ah D'.K<=600->ya D' x 0 0->WK L Ck (L0 (p .v) x) ab τ Q):WK L clB (L0 (p .v) x) ab σ Q:=by
 unfold clB;have J:=hV.ok;have M:=J.ok;have jl:=M.aG;have y:=h.has .v _ rfl;unfold Vd.box at y;have Pa:∀B:aO,aQ (σ ++ [B]) (p .v)=_:=λB=>iu (r:=[B]) y;simp[-aK,Pa];have rl:ah (D.iN x)=aj D.n.aG:=by simp[Vd.iN]
 refine bB (λq:Nat×aq=>[(2,.int q.1),(4,.sl (ah σ) q.1 0 q.1)]) (λq=>q.2)
  (λq=>q.1<=aj D.n.aG/\VS {D with K:=bj D.K ((D.iN x).take q.1)} (vc O (ah σ) (gr (idxs (bj D.K ((D.iN x).take q.1)) ((D.iN x).take q.1)))) p q.2) (λq=>aj D.n.aG-q.1) (0,σ ++ [gr []]) bS ⟨aA,by simpa[bj,idxs]using h.push _⟩ ?_
 rintro⟨r,N⟩ ⟨r0,E⟩;dsimp only at r0 E ⊢;have d:=J.LZ hx;have hpv:∀v∈D.iN x,P v:=λv y=>by
  obtain⟨i,R,rfl⟩:=cJ.1 y;have:=cE.1 R;rw[C];exact hP.aft _ (hV.kx hx) i ax (by rw[<-C];omega)
 generalize S:D.iN x=vs at *;obtain⟨ext,a,he2⟩:=zw (vs.take r) D.K;have g:ix (bj D.K (vs.take r)) (x:Int)=ix D.K (x:Int):=by rw[a,wW hx]
 have T:=E.view;have hb:=E.has (.old (ah σ)) _ zu;rw[E.old]at hb
 by_cases hr:r<aj D.n.aG
 .have m:(r:Int)<D.n.aG:=by omega
  have hDr:=J.bj (vs:=vs.take r) λv y=>d v (List.mem_of_mem_take y);have Bu:ix vs (r:Int)=(ix D.K (x:Int)).map λs=>ix (ix D.n.aH s) (r:Int):=by
   rw[<-S,Vd.iN,kv ax aT]
   simp[bt (show r<ah (af (aj D.n.aG)) by simp;omega)]
  have hlx:=J.kx hx;have Il:=J.el;have hx1:(x:Int)<(ah (bj D.K (vs.take r)):Int):=by rw[a];simp;omega
  have hKl:ah (bj D.K (vs.take r))<=2000:=by rw[a,bM];have:ah (vs.take r)<=r:=List.length_take_le r vs;omega
  have hA:=anb (Vd.vcs {D with K:=bj D.K (vs.take r)}) M x r ⟨ax,hx1⟩ ⟨ax,m⟩ (by show D.n.u7 (ix (bj D.K (vs.take r)) (x:Int));rw[g];exact hlx.1) (by show(ah (ix (bj D.K (vs.take r)) (x:Int)))<=1000;rw[g];omega)
  obtain⟨z,ZH,hA,hz⟩:=dt hA;have hz:cK ZH ad z=aa (iL (ix vs (r:Int))):=by
   rw[hz,Bu];show aa (iL ((ix (bj D.K (vs.take r)) (x:Int)).map λs=>ix (ix D.n.aH s) (r:Int)))=_;rw[g]
  have GP:=d _ (bh (l:=vs) (n:=(r:Int)) ax ax)
  have tk:=lZ (w:=vs) (k:=r) ax
  have U:=Fp (K:=D.K) (vs:=vs.take r) (l:=ix vs (r:Int));generalize ix vs (r:Int)=l at *;have V:=UM {D with K:=bj D.K (vs.take r)} _ p N E l (Cg M GP.1) (λk hk=>Cg M (hDr.st k hk).1) ax (λe=>by have h0:ah (bj D.K (vs.take r))=0:=(by dsimp only at e;rw[e];rfl);omega) aR
  obtain⟨rv,τ,hN,rfl,o,hlen⟩:=dt V;clear V;have A:=o.has (.old (ah σ)) _ zu;rw[o.old]at A;have u:ah (idxs (bj D.K (vs.take r)) (vs.take r))=r:=oL
  generalize idxs (bj D.K (vs.take r)) (vs.take r)=row at *;simp[-aK,m,T,hA,hz,hN,A];refine⟨⟨u,iB⟩,ax,ax,a8 (r+1,_) (by simp[u]) rfl ⟨aR,?_⟩ aR⟩
  dsimp only;rw[tk,U,Ce];rw[UN]at o;have:=o.put (b:=ah σ) (if_pos rfl) (gr (row ++ [(((bj D.K (vs.take r)).idxOf l:Nat):Int)]));have e:gr (row ++ [(((bj D.K (vs.take r)).idxOf l:Nat):Int)])=⟨ab,row.map AV.int ++ [.int (((bj D.K (vs.take r)).idxOf l:Nat):Int)],.live⟩:=aA
  rw[<-e];refine this.Cd λi B j=>?_;unfold vc at j ⊢;split
  .rename_i R;simpa[R]using j
  .rename_i R;simpa[R]using j
 .have er:r=aj D.n.aG:=by omega
  have m:¬(r:Int)<D.n.aG:=ax
  rw[gN ax]at E hb T a g
  have u:ah (idxs (bj D.K vs) vs)=r:=oL
  simp[-aK,m];refine Cf hb aA u.symm ?_
  have F:∀row:ak,∀i B,O i=aa B->vc (vc O (ah σ) (gr row)) (ah σ) ⟨ab,row.map .int,.dead⟩ i=aa B:=λrow i B j=>by
   have H:=h.lt (t:=.old i) j;rw[h.old]at H;simp[vc,show i ≠ ah σ by omega,j]
  have hS2:=(E.put (b:=ah σ) (aD rfl) ⟨ab,(idxs (bj D.K vs) vs).map .int,.dead⟩).Cd (F _);have hV2:=hV.grow d hpv;have W:Vd.iN {D with K:=bj D.K vs} x=vs:=by
   show(af (aj D.n.aG)).map (λ(i:Nat)=>(ix (bj D.K vs) (x:Int)).map λs=>ix (ix D.n.aH s) (i:Int))=_;rw[g,<-S];rfl
  have X:x<ah (bj D.K vs):=by rw[a];simp;omega
  have G:=hV2.fF (x:=x) hI.symm X (by rw[W];exact λv y=>ve (.inl y))
  rw[W]at G;have hlen:ah (bj D.K vs)<=600:=by rw[a,bM];have:ah (vs.take r)<=r:=List.length_take_le r vs;omega
  dsimp only at G;generalize arF:idxs (bj D.K vs) vs=row at *;generalize anh:aV N (ah σ) ⟨ab,row.map .int,.dead⟩=N8 at *;simp[-aK];rw[LU];refine ann (row:=row) {D with K:=bj D.K vs} p N8 hS2 ax hI λp' τ hS3 Y=>?_
  rw[<-Y];refine ano (Vd.fF {D with K:=bj D.K vs} row) p' τ hS3 M ax j λp4 τ4 hS4 Z=>?_
  rw[<-Z];rw[<-Y,<-Z]at H;refine H _ p4 τ4 ⟨hS4,G.ck,C,hDp,rfl,by simp[Vd.ck,Vd.fF,hI],X⟩ hlen ⟨by simp[Vd.ck,Vd.fF,j],λI c' H h2=>?_,λc' h2=>?_⟩
  .rw[zy,aC (by show ¬I = ah D.BL;omega)]
   rw[aC ax]
   exact hl I c' H h2
  .rw[zy,aD (by show x=ah D.BL;omega)]
   simp
structure Full (D:Vd):Prop where
 i:ah D.IN=ah D.K
 b:ah D.BL=ah D.K
 k:ah D.K<=512
 c:∀x c,x<ah D.K->c<aj D.n.ay->ah (D.cv x c)=ah D.K
def anp(D:Vd) (R:G0 P D.n D.plc)(p:Tg->Nat) (σ:aq) (h:VS D O p σ) (X:nT P D) (Y:D.IN=[]) (Z:D.BL=[]) (hK:ah D.K<=512) :
  LX L EB [.ptr (p .v) 16 0] σ (λr τ=>∃D' p', VS D' O p' τ/\nT P D' /\D'.n=D.n/\D'.plc=D.plc/\p' .v=p .v/\((r = .bool ad/\Full D')\/(r = .bool ae/\512<ah D'.K))):=by
 refine ajS rfl ?_;simp[-aK];refine bB (λq:Nat×aq=>[(1,.int q.1)]) (λq=>q.2)
  (λq=>∃D' p', VS D' O p' q.2/\nT P D' /\(D'.n=D.n/\D'.plc=D.plc/\p' .v=p .v)/\ah D'.IN=q.1/\ah D'.BL=q.1/\ah D'.K<=512/\q.1<=ah D'.K/\∀b d, b < q.1->d < aj D'.n.ay->ah (D'.cv b d)=q.1) (λq=>513-q.1) (0,σ) bS ⟨D,p,h,X,⟨rfl,rfl,rfl⟩,by simp[Y],by simp[Z],hK,aA,λb d h=>by dsimp only at h;omega⟩ ?_
 rintro⟨x,G⟩ ⟨o,S,C,u,⟨T,U,H⟩,w,y,z,I,g⟩;dsimp only at C w y I g ⊢;have E:=C.has .v _ rfl;unfold Vd.box at E;rw[H]at E;show WK L (.seq (.seq (.cM TG) (.cond 14 .skip (.exit 0))) (.seq (.block 1 clB) (.cM TS))) _ _ _ _
 by_cases hx:x<ah o.K
 .have j :=bz (show(x:Int)<(ah o.K:Int)by omega)
  simp[-aK,E,j];rw[<-H];refine U9 (n:=D.n) (plc:=D.plc) R o S G C u T U hx z w y g λD2 p2 τ J M N=>?_;refine anm R D2 p2 τ J M N (λF Q A a l m=>?_) λF Q A a m=>?_
  .simp[-aK]
   refine⟨ax,a8 (x+1,A) aA rfl ⟨F,Q,a.s,a.v,⟨a.n,a.plc,a.p⟩,a.i,l.bl,m,by have:=a.x;dsimp only;omega,λb d V W=>?_⟩ aR⟩
   dsimp only at V ⊢;have B : d < aj F.n.ay:=ax
   by_cases e:b < x
   .rw[l.lo b d e B, aD ax]
   .have:b = x:=by omega
    subst this;rw[l.hi d B, aC ax]
  .simp[-aK]
   exact⟨F,Q,a.s,a.v,a.n,a.plc,a.p,m⟩
 .have j :=eG (show ¬(x:Int)<(ah o.K:Int)by omega)
  simp[-aK,E,j];exact⟨o,S,C,u,T,U,H,ax,ax,z,λb d V W=>by rw[g b d ax W];omega⟩
end Ab
