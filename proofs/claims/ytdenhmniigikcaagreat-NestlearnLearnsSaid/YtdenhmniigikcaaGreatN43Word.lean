/- The check of an automaton, by the program and by the document; and what it leans on. Condition: none. -/
import Derived.Test.YtdenhmniigikcaaGreatKey
set_option linter.all false
set_option maxRecDepth 100000
set_option maxHeartbeats 4000000
open Option renaming some->aa,none->ab
open Bool renaming true->ad,false->ae
open List renaming range->af,replicate->ag,length->ah
open Int renaming toNat->aj
namespace Ab
structure aS where
 ay:Int
 aG:Int
 aM:Int
 aL:Int
 aF:Int
 az:List Bool
 call:al
 push:al
 aH:al
 aP:List al
 deriving Inhabited
abbrev aS.av (n:aS):AV:=.agg [.int n.ay,.int n.aG,.int n.aM,.int n.aL,.int n.aF,bL n.az,bU n.call,bU n.push,bU n.aH,dw n.aP]
structure aS.fits (n:aS):Prop where
 ay:lA n.ay=ad
 aG:lA n.aG=ad
 aM:lA n.aM=ad
 aL:lA n.aL=ad
 aF:lA n.aF=ad
 az:(ah n.az:Int)<=9223372036854775807
 call:∀l∈n.call,(ah l:Int)<=9223372036854775807
 push:∀l∈n.push,(ah l:Int)<=9223372036854775807
 aH:∀l∈n.aH,(ah l:Int)<=9223372036854775807
 aP:∀l∈n.aP,(ah l:Int)<=9223372036854775807/\∀m∈l,(ah m:Int)<=9223372036854775807
def amj (x k:Int):PC EN [.int x,.bN (.int k)]=aa (.bool (iK k x)):=by
 refine cB (akI rfl ?_);simp[iK];omega
def BW (xs:ak) (k:Int) (a:(ah xs:Int)<=9223372036854775807): PC uX [iL xs,.int k]=aa (.bool (bad xs k)):=by
 refine cB (akg rfl ?_);simp[T6 xs EN [.bN (.int k)] (iK k) a rfl rfl (λx _=>amj x k)]
 rfl
def T9 (n:aS) (a:lA (n.ay+n.aG)=ad) (b:lA (n.ay+n.aG+n.aM)=ad):PC BM [n.av]=aa (.int (n.ay+n.aG+n.aM)):=by
 refine cB (aj9 rfl ?_);simp;rw[rO]at a b;omega
def amk (n:aS) (a:lA (n.ay+n.aG)=ad) (b:lA (n.ay+n.aG+n.aM)=ad):PC EI [n.av]=aa (.int (n.ay+n.aG+n.aM)):=by
 refine cB (aj7 rfl ?_);simp;rw[rO]at a b;omega
def aS.kr (n:aS) (l:ak):Int:=if(ah l:Int) ≠ n.aM then 1 else if bad l (ah n.az)=ad then 2 else 0
def aS.fC (n:aS) (s:Int):Int:=
 if ¬(ah (ix n.call s):Int)=n.ay\/¬(ah (ix n.push s):Int)=n.ay\/¬(ah (ix n.aH s):Int)=n.aG\/¬(ah (ix n.aP s):Int)=n.aL then 1
 else if bad (ix n.call s) (ah n.az)=ad\/bad (ix n.push s) n.aL=ad\/bad (ix n.aH s) (ah n.az)=ad then 2
 else fZ (λg=>n.kr (ix (ix n.aP s) g)) (ah (ix n.aP s))
def Ua (n:aS) (h:n.fits) (s:Int) (p:0<=s) (r:s<ah n.call) (u:s<ah n.push) (E:s<ah n.aH) (F:s<ah n.aP):PC KQ [n.av,.int s]=aa (.int (n.fC s)):=by
 have G:=BW (ix n.call s) (ah n.az) (h.call _ (bh p r));have H:=BW (ix n.push s) n.aL (h.push _ (bh p u));have I:=BW (ix n.aH s) (ah n.az) (h.aH _ (bh p E));have J:=h.aP _ (bh p F);refine cB (akh rfl ?_);simp[p,r,u,E,F,G,H,I];have no:∀{a:Int},1=n.fC s->a=1->a=n.fC s:=λh e=>e.trans h;refine⟨λd=>⟨λl=>⟨λm=>⟨λo=>⟨λb1=>by simp[aS.fC,d,l,m,o,b1],λb1=>⟨λz=>by simp[aS.fC,d,l,m,o,z],λz=>⟨λA=>by simp[aS.fC,d,l,m,o,A],λA=>?_⟩⟩⟩,λo=>by simp[aS.fC,o]⟩,λm=>by simp[aS.fC,m]⟩,λl=>by simp[aS.fC,l]⟩,λd=>by simp[aS.fC,d]⟩
 have e:n.fC s=fZ (λg=>n.kr (ix (ix n.aP s) g)) (ah (ix n.aP s)):=by simp[aS.fC,d,l,m,o,b1,z,A]
 rw[e];refine bB (λi:Int=>[(4,.int i)]) (λ_=>[]) (λi=>0<=i/\i<=ah (ix n.aP s)/\∀j,0<=j->j<i->n.kr (ix (ix n.aP s) j)=0) (λi=>aj (ah (ix n.aP s)-i)) 0 rfl aT λi ⟨B,i1,C⟩=>?_
 by_cases w:i<ah (ix n.aP s)
 .have K:=BW (ix (ix n.aP s) i) (ah n.az) (J.2 _ (bh B w))
  simp[w,B,K];have q:∀{x:Int},n.kr (ix (ix n.aP s) i)=x->x ≠ 0->x=fZ (λg=>n.kr (ix (ix n.aP s) g)) (ah (ix n.aP s)):=λr u=>by subst r;exact(E1 (f:=λg=>n.kr (ix (ix n.aP s) g)) B w u C).symm
  refine⟨λy=>⟨λD=>q (by simp[aS.kr,y,D]) aA,λD=>⟨ax,⟨ax,ax,iY (by simp[aS.kr,y,D]) C⟩,ax⟩⟩,λy=>q (by simp[aS.kr,y]) aA⟩
 .simp[w]
  rw[BU λj a b=>C j a ax]
def aS.gg (n:aS):Int:=
 if n.ay<0\/65<=n.ay\/n.aG<0\/65<=n.aG\/n.aM<0\/65<=n.aM then 2
 else if n.ay+n.aG+n.aM<1 then 2
 else if 64<n.ay+n.aG+n.aM then 2
 else if n.aL<1 then 2
 else if 128<n.aL then 2
 else if n.az=[]then 19
 else if 128<(ah n.az:Int)then 11
 else if n.aF<0 then 2
 else if(ah n.az:Int)<=n.aF then 2
 else if ¬(ah n.call:Int)=ah n.az then 1
 else if ¬(ah n.push:Int)=ah n.az then 1
 else if ¬(ah n.aH:Int)=ah n.az then 1
 else if ¬(ah n.aP:Int)=ah n.az then 1
 else 0
def aS.bI (n:aS):Int:=if n.gg ≠ 0 then n.gg else fZ n.fC (ah n.az)
variable{n:aS}{x:Int}
def Ll(h:n.gg=x) (a:x ≠ 0):x=n.bI:=by
 subst h;simp[aS.bI,a]
def zn (n:aS) (h:n.fits):PC wO [n.av]=aa (.int n.bI):=by
 refine cB (ajQ rfl ?_);have o:PC uX [.aX ae [.int n.ay,.int n.aG,.int n.aM],.int 65]=_:=BW [n.ay,n.aG,n.aM] 65 aA
 by_cases d:bad [n.ay,n.aG,n.aM] 65=ad
 .simp[o,d]
  simp[bad,iK]at d;exact Ll (by simp[aS.gg,show n.ay<0\/65<=n.ay\/n.aG<0\/65<=n.aG\/n.aM<0\/65<=n.aM by omega]) aA
 have e :=d;simp[bad,iK]at e;have q:=T9 n (by rw[rO];omega) (by rw[rO];omega)
 have e0:¬(n.ay<0\/65<=n.ay\/n.aG<0\/65<=n.aG\/n.aM<0\/65<=n.aM):=ax
 simp[o,d,q]
 repeat' (first|apply And.intro|intro _)
 all_goals try(refine Ll ?_ aA;unfold aS.gg;rw[aC e0];repeat (first|rw[aD jE]|rw[aC jE]|rw[aC ax]))
 rename_i u w x y z A B C b1 D E F;have r:n.gg=0:=by unfold aS.gg;rw[aC e0];repeat (first|rw[aD jE]|rw[aC jE]|rw[aC ax])
 rw[show n.bI=fZ n.fC (ah n.az) by simp[aS.bI,r]]
 refine bB (λi:Int=>[(3,.int i)]) (λ_=>[]) (λi=>0<=i/\i<=ah n.az/\∀j,0<=j->j<i->n.fC j=0) (λi=>aj (ah n.az-i)) 0 rfl aT λi ⟨p,i1,g⟩=>?_
 by_cases l:i<ah n.az
 .have s:=Ua n h i p ax ax ax ax
  simp[l,s];exact⟨λm=>⟨ax,⟨ax,ax,iY m g⟩,ax⟩,λm=>(E1 p l m g).symm⟩
 .simp[l]
  rw[BU λj a b=>g j a ax]
def Lm (n:aS) (s:Int):PC BP [n.av,.int s]=aa (.bool (!iK (ah n.az) s)):=by
 refine cB (akE rfl ?_);rw[amf];simp;exact⟨λa=>gf,λa b=>ax⟩
def aml (n:aS):PC KN [n.av]=aa (.int n.gg):=by
 refine cB (aj5 rfl ?_)
 by_cases e0:n.ay<0\/65<=n.ay\/n.aG<0\/65<=n.aG\/n.aM<0\/65<=n.aM
 .rw[show n.gg=2 by simp[aS.gg,e0]]
  simp;omega
 .have a:=amk n (by rw[rO];omega) (by rw[rO];omega)
  have b:¬n.ay<0:=ax
  have d:¬n.ay>64:=ax
  have e:¬n.aG<0:=ax
  have g:¬n.aG>64:=ax
  have h:¬n.aM<0:=ax
  have i:¬n.aM>64:=ax
  simp[b,d,e,g,h,i,a]
  repeat' (first|apply And.intro|intro _)
  all_goals (unfold aS.gg;rw[aC e0];repeat (first|rw[aD jE]|rw[aC jE]|rw[aC ax]))
def amm (n:aS) (h:n.fits) (s:Int) (l:0<=s) (y:s<ah n.call) (z:s<ah n.push) (F:s<ah n.aH) (C:s<ah n.aP):PC KO [n.av,.int s]=aa (.int (n.fC s)):=by
 refine cB (aj6 rfl ?_);have W:=h.call _ (bh l y);have X:=h.push _ (bh l z);have Y:=h.aH _ (bh l F);have T:=h.aP _ (bh l C);simp[l,y,z,F,C];refine⟨λp=>⟨λu=>⟨λw=>⟨λA=>?_,λA=>by simp[aS.fC,A]⟩,λw=>by simp[aS.fC,w]⟩,λu=>by simp[aS.fC,u]⟩,λp=>by simp[aS.fC,p]⟩
 refine bB (λi:Int=>[(3,.int i)]) (λ_=>[]) (λi=>0<=i/\i<=n.ay/\(∀j,0<=j->j<i->iK (ah n.az) (ix (ix n.call s) j)=ae)/\∀j,0<=j->j<i->iK n.aL (ix (ix n.push s) j)=ae) (λi=>aj (n.ay-i)) 0 rfl ⟨ax,ax,oQ,oQ⟩ λi ⟨D,i1,J,K⟩=>?_
 by_cases L:i<n.ay
 .have B:=Lm n (ix (ix n.call s) i)
  simp[L,B,l,y,z,D,p,u];have q:bad (ix n.call s) (ah n.az)=ad\/bad (ix n.push s) n.aL=ad\/bad (ix n.aH s) (ah n.az)=ad->2=n.fC s:=λG=>by simp[aS.fC,p,u,w,A,G]
  refine⟨λd=>q (.inl (uY D ax d)),λd=>⟨λm=>q (.inr (.inl (uY D ax (by simp[iK,m])))),λm=>⟨λH=>q (.inr (.inl (uY D ax (by simp[iK,H])))),λH=>⟨ax,⟨ax,ax,iY d J,iY (Lk.2 ⟨m,H⟩) K⟩,ax⟩⟩⟩⟩
 simp[L];have b1:=xX (xs:=ix n.call s) λj a b=>J j a ax
 have U:=xX (xs:=ix n.push s) λj a b=>K j a ax
 refine bB (λi:Int=>[(4,.int i)]) (λ_=>[]) (λi=>0<=i/\i<=n.aG/\(∀j,0<=j->j<i->iK (ah n.az) (ix (ix n.aH s) j)=ae)) (λi=>aj (n.aG-i)) 0 rfl ⟨ax,ax,oQ⟩ λM ⟨N,Z,O⟩=>?_
 by_cases P:M < n.aG
 .have B:=Lm n (ix (ix n.aH s) M)
  simp[P,B,l,F,N,w];have q:bad (ix n.aH s) (ah n.az)=ad->2=n.fC s:=λG=>by simp[aS.fC,p,u,w,A,G]
  exact⟨λd=>q (uY N ax d),λd=>⟨ax,⟨ax,ax,iY d O⟩,ax⟩⟩
 simp[P];have V:=xX (xs:=ix n.aH s) λj a b=>O j a ax
 have e:n.fC s=fZ (λg=>n.kr (ix (ix n.aP s) g)) (ah (ix n.aP s)):=by simp[aS.fC,p,u,w,A,b1,U,V]
 rw[e];refine bB (λi:Int=>[(5,.int i)]) (λ_=>[]) (λi=>0<=i/\i<=ah (ix n.aP s)/\∀j,0<=j->j<i->n.kr (ix (ix n.aP s) j)=0) (λi=>aj (ah (ix n.aP s)-i)) 0 rfl aT λg ⟨E,g1,I⟩=>?_
 have q:g<ah (ix n.aP s)->∀{x:Int},n.kr (ix (ix n.aP s) g)=x->x ≠ 0->x=fZ (λg=>n.kr (ix (ix n.aP s) g)) (ah (ix n.aP s)):=λo x y z=>by subst y;exact(E1 (f:=λg=>n.kr (ix (ix n.aP s) g)) E o z I).symm
 by_cases o:g<ah (ix n.aP s)
 .simp[show g<n.aL by omega,o,l,C,E]
  refine⟨λd=>?_,λd=>q o (by simp[aS.kr,d]) aA⟩
  have k5:=T.2 _ (bh E o);refine bB (λi:Int=>[(6,.int i)]) (λ_=>[]) (λi=>0<=i/\i<=n.aM/\(∀j,0<=j->j<i->iK (ah n.az) (ix (ix (ix n.aP s) g) j)=ae)) (λi=>aj (n.aM-i)) 0 rfl ⟨ax,ax,oQ⟩ λr ⟨Q,r1,R⟩=>?_
  by_cases S:r<n.aM
  .have B:=Lm n (ix (ix (ix n.aP s) g) r)
   simp[S,B,l,C,E,o,Q,d];exact⟨λm=>q o (by simp[aS.kr,d,uY Q ax m]) aA,λm=>⟨ax,⟨ax,ax,iY m R⟩,ax⟩⟩
  .simp[S]
   exact⟨ax,⟨ax,ax,iY (by simp[aS.kr,d,xX (xs:=ix (ix n.aP s) g) λj a b=>R j a ax]) I⟩,ax⟩
 .simp[show ¬g<n.aL by omega]
  rw[BU λj a b=>I j a ax]
def amn (n:aS) (h:n.fits):PC KH [n.av]=aa (.int n.bI):=by
 refine cB (ajN rfl ?_);have o:=aml n;simp[o];refine⟨λd=>?_,λd=>Ll rfl d⟩;rw[show n.bI=fZ n.fC (ah n.az) by simp[aS.bI,d]]
 have q:=h.az;have r:(ah n.call:Int)=ah n.az/\(ah n.push:Int)=ah n.az/\(ah n.aH:Int)=ah n.az/\(ah n.aP:Int)=ah n.az:=by
  unfold aS.gg at d
  (repeat' split at d)<;>omega
 refine bB (λi:Int=>[(3,.int i)]) (λ_=>[]) (λi=>0<=i/\i<=ah n.az/\∀j,0<=j->j<i->n.fC j=0) (λi=>aj (ah n.az-i)) 0 rfl aT λi ⟨m,i1,e⟩=>?_
 by_cases g:i<ah n.az
 .have p:=amm n h i m ax ax ax ax
  simp[g,p];exact⟨λl=>⟨ax,⟨ax,ax,iY l e⟩,ax⟩,λl=>(E1 m g l e).symm⟩
 .simp[g]
  rw[BU λj a b=>e j a ax]
def aS.zo (n:aS) (l x:Int):Int:=if x<n.ay then l+1 else if n.ay+n.aG<=x then l-1 else l
def aS.jo (n:aS) (p:Int×Int×Int) (x:Int):Int×Int×Int:=(n.zo p.1 x,max p.2.1 (n.zo p.1 x),min p.2.2 (n.zo p.1 x))
def aS.kN (n:aS) (w:ak):Int×Int×Int:=w.foldl n.jo (0,0,0)
def aS.og (n:aS) (w:ak) (i:Int):Int×Int×Int:=(w.take (aj i)).foldl n.jo (0,0,0)
variable{w:ak}{i:Int}
def uZ(a:0<=i) (b:i<ah w):n.og w (i+1)=n.jo (n.og w i) (ix w i):=T7 a b
theorem Ub:n.og w 0=(0,0,0):=rfl
def Uc(h:(ah w:Int)<=i):n.og w i=n.kN w:=T8 h
def Lo(i:Nat) (h:i<=ah w) : -i<=(n.og w i).1/\(n.og w i).1<=i/\0<=(n.og w i).2.1/\(n.og w i).2.1<=i/\(n.og w i).2.2<=0/\-i<=(n.og w i).2.2:=by
 induction i with
 |zero=>simp[Ub]
 |succ i a=>
  have e:=uZ (n:=n) (w:=w) (i:=i) ax ax
  have:=a ax
  rw[show((i+1:Nat):Int)=(i:Int)+1 by omega,e]
  simp only[aS.jo,aS.zo];split<;>(try split)<;>omega
def amo(a:0<=i) (b:i<=ah w) : -i<=(n.og w i).1/\(n.og w i).1<=i/\0<=(n.og w i).2.1/\(n.og w i).2.1<=i/\(n.og w i).2.2<=0/\-i<=(n.og w i).2.2:=by
 have:=Lo (n:=n) (w:=w) (aj i) ax
 rw[show((aj i:Nat):Int)=i by omega]at this
 exact this
def amp (n:aS) (w:ak) (a:lA (n.ay+n.aG)=ad) (h:(ah w:Int)<=1000000):PC EK [n.av,iL w]=aa (.bY [.int (n.kN w).2.1,.bool (decide ((n.kN w).2.2=0)&&decide ((n.kN w).1=0))]):=by
 refine cB (aka rfl ?_);rw[rO]at a;simp;refine bB (λi:Int=>[(2,.int i),(7,.int (n.og w i).1),(8,.int (n.og w i).2.1),(9,.bool (decide ((n.og w i).2.2=0)))]) (λ_=>[]) (λi=>0<=i/\i<=ah w) (λi=>aj (ah w-i)) 0 rfl aA λi ⟨b,i1⟩=>?_
 have B:=amo (n:=n) b i1
 by_cases a:i<ah w
 .have e:=uZ (n:=n) b a
  simp[a,b,and_assoc];refine⟨λd=>?_,λd=>⟨ax,ax,λg=>?_,λg=>?_⟩⟩
  .simp only[e,aS.jo,aS.zo,aD d]
   (repeat' (first|apply And.intro|intro _))<;>first|trivial|omega
  .simp only[e,aS.jo,aS.zo,aC (show ¬ix w i<n.ay by omega),aD g]
   (repeat' (first|apply And.intro|intro _))<;>first|trivial|omega
  .simp only[e,aS.jo,aS.zo,aC (show ¬ix w i<n.ay by omega),aC (show ¬n.ay+n.aG<=ix w i by omega)]
   (repeat' (first|apply And.intro|intro _))<;>first|trivial|omega
 .have e:=Uc (n:=n) (w:=w) (i:=i) ax
  rw[e]at B ⊢;simp[a];omega
structure aS.Lp (K:Int) (n:aS):Prop where
 ay:0<=n.ay/\n.ay<=64
 aG:0<=n.aG/\n.aG<=64
 aM:0<=n.aM/\n.aM<=64
 syms:1<=n.ay+n.aG+n.aM/\n.ay+n.aG+n.aM<=64
 aL:1<=n.aL/\n.aL<=K
 eC:1<=(ah n.az:Int)/\(ah n.az:Int)<=128
 aF:0<=n.aF/\n.aF<ah n.az
 lens:(ah n.call:Int)=ah n.az/\(ah n.push:Int)=ah n.az/\(ah n.aH:Int)=ah n.az/\(ah n.aP:Int)=ah n.az
 row:∀s,0<=s->s<(ah n.az:Int)->(ah (ix n.call s):Int)=n.ay/\(ah (ix n.push s):Int)=n.ay/\(ah (ix n.aH s):Int)=n.aG/\(ah (ix n.aP s):Int)=n.aL
 call:∀s c,0<=s->s<(ah n.az:Int)->0<=c->c<n.ay->0<=ix (ix n.call s) c/\ix (ix n.call s) c<ah n.az
 push:∀s c,0<=s->s<(ah n.az:Int)->0<=c->c<n.ay->0<=ix (ix n.push s) c/\ix (ix n.push s) c<n.aL
 aH:∀s c,0<=s->s<(ah n.az:Int)->0<=c->c<n.aG->0<=ix (ix n.aH s) c/\ix (ix n.aH s) c<ah n.az
 zp:∀s g,0<=s->s<(ah n.az:Int)->0<=g->g<n.aL->(ah (ix (ix n.aP s) g):Int)=n.aM
 aP:∀s g r,0<=s->s<(ah n.az:Int)->0<=g->g<n.aL->0<=r->r<n.aM->0<=ix (ix (ix n.aP s) g) r/\ix (ix (ix n.aP s) g) r<ah n.az
abbrev aS.Ok (n:aS):Prop:=n.Lp 128
variable{K:Int}
def aS.Lp.up{J:Int}(h:n.Lp K) (hs:n.aL<=J):n.Lp J:={h with aL:=⟨h.aL.1,hs⟩}
def amq(h:n.gg=0):(0<=n.ay/\n.ay<=64)/\(0<=n.aG/\n.aG<=64)/\(0<=n.aM/\n.aM<=64)/\(1<=n.ay+n.aG+n.aM/\n.ay+n.aG+n.aM<=64)/\(1<=n.aL/\n.aL<=128)/\(1<=(ah n.az:Int)/\(ah n.az:Int)<=128)/\(0<=n.aF/\n.aF<ah n.az)/\(ah n.call:Int)=ah n.az/\(ah n.push:Int)=ah n.az/\(ah n.aH:Int)=ah n.az/\(ah n.aP:Int)=ah n.az:=by
 unfold aS.gg at h;have b:n.az ≠ []->1<=(ah n.az:Int):=λh=>by
  have:=nc.2 h;omega
 by_cases a:n.az=[]
 .simp only[aD a]at h
  (repeat' split at h)<;>omega
 .have:=b a
  simp only[aC a]at h
  (repeat' split at h)<;>omega
variable{s:Int}
def amr(h:n.fC s=0):((ah (ix n.call s):Int)=n.ay/\(ah (ix n.push s):Int)=n.ay/\(ah (ix n.aH s):Int)=n.aG/\(ah (ix n.aP s):Int)=n.aL)/\bad (ix n.call s) (ah n.az)=ae/\bad (ix n.push s) n.aL=ae/\bad (ix n.aH s) (ah n.az)=ae/\∀g,0<=g->g<n.aL->(ah (ix (ix n.aP s) g):Int)=n.aM/\bad (ix (ix n.aP s) g) (ah n.az)=ae:=by
 unfold aS.fC at h;split at h
 .simp at h
 rename_i a;split at h
 .simp at h
 rename_i b;simp only[not_or,Classical.not_not,Bool.not_eq_true]at a b;refine⟨a,b.1,b.2.1,b.2.2,λg e i=>?_⟩;have:=E3.1 h g e ax
 simp only[aS.kr]at this;split at this
 .simp at this
 rename_i c;split at this
 .simp at this
 rename_i d;exact⟨by simpa using c,by simpa using d⟩
def oR(h:n.bI=0):n.Ok:=by
 have l:n.gg=0:=by
  unfold aS.bI at h;split at h
  .rename_i a;exact absurd h a
  .rename_i a;simpa using a
 have o:∀s,0<=s->s<(ah n.az:Int)->n.fC s=0:=by
  unfold aS.bI at h;rw[aC (by simpa using l)]at h
  exact E3.1 h
 obtain⟨p,q,u,w,x,y,z,A⟩:=amq l;have R:=λs b d=>amr (o s b d);exact⟨p,q,u,w,x,y,z,A,λs b d=>(R s b d).1,λs c b d e m=>rQ.1 (R s b d).2.1 c e (by have:=(R s b d).1;omega),λs c b d e m=>rQ.1 (R s b d).2.2.1 c e (by have:=(R s b d).1;omega),λs c b d e m=>rQ.1 (R s b d).2.2.2.1 c e (by have:=(R s b d).1;omega),λs g b d i j=>((R s b d).2.2.2.2 g i j).1,λs g r b d i j B C=>rQ.1 ((R s b d).2.2.2.2 g i j).2 r B (by have:=((R s b d).2.2.2.2 g i j).1;omega)⟩
def aS.word (n:aS) (w:ak):Prop:=(ah w:Int)<=1024/\∀x∈w,0<=x/\x<n.ay+n.aG+n.aM
def Lq(h:iZ w (n.ay+n.aG+n.aM)=0):n.word w:=by
 unfold iZ at h
 (repeat' split at h)<;>try(simp at h;done)
 rename_i a b c;exact⟨ax,λx d=>BV.1 (by simpa using c) x d⟩
def Lr (n:aS) (s c:Int) (a:0<=s) (b:s<ah n.call) (d:s<ah n.push) (e:0<=c) (g:c<ah (ix n.call s)) (h:c<ah (ix n.push s)):PC uT [n.av,.int s,.int c]=aa (.bY [.int (ix (ix n.call s) c),.int (ix (ix n.push s) c)]):=by
 refine cB (akb rfl ?_);simp[a,b,d,e,g,h]
def Ls (n:aS) (s c:Int) (a:0<=s) (b:s<ah n.aH) (d:0<=c) (e:c<ah (ix n.aH s)):PC uQ [n.av,.int s,.int c]=aa (.int (ix (ix n.aH s) c)):=by
 refine cB (akd rfl ?_);simp[a,b,d,e]
def Lt (n:aS) (s g r:Int) (a:0<=s) (b:s<ah n.aP) (d:0<=g) (e:g<ah (ix n.aP s)) (h:0<=r) (i:r<ah (ix (ix n.aP s) g)):PC uU [n.av,.int s,.int g,.int r]=aa (.int (ix (ix (ix n.aP s) g) r)):=by
 refine cB (ake rfl ?_);simp[a,b,d,e,h,i]
def wR (n:aS):PC kq [n.av]=aa (.int (ah n.az)):=by
 refine cB (akA rfl ?_);simp
def hd (l:ak):Int:=l.headD 0
variable{l:ak}
theorem Lu:hd (x::l)=x:=rfl
def E6:Option (ak×Nat)->aq
 |none=>[⟨aa 1,[.aJ],.live⟩]
 |some (xs,k)=>[⟨aa 1,[.sl 1 (ah xs) 0 k],.live⟩,⟨ab,xs.map .int,.live⟩]
def ks (x:Int):Option (ak×Nat)->Option (ak×Nat)
 |none=>aa ([x],1)
 |some (xs,k)=>if (ah xs)=k then aa (xs ++ [x],k+1)else aa (xs.set k x,k+1)
def qN:Option (ak×Nat)->Option (ak×Nat)
 |none=>ab
 |some (xs,k)=>aa (xs,k-1)
def BX:Option (ak×Nat)->ak
 |none=>[]
 |some (xs,k)=>(xs.take k).reverse
def ku (m:Nat):Option (ak×Nat)->Prop
 |none=>True
 |some (xs,k)=>k<=ah xs/\k<=m
variable{o:Option (ak×Nat)}
def ams{m:Nat}(h:ku m o):BX (ks x o)=x::BX o/\ku (m+1) (ks x o):=by
 cases o with
 |none=>simp[ks,BX,ku]
 |some p=>
  obtain⟨xs,k⟩:=p;simp only[ku]at h;simp only[ks];split
  .rename_i e;subst e;exact⟨by simp[BX,gN],by simp[ku];exact h.2⟩
  .rename_i e
   refine⟨?_,by simp[ku];omega⟩
   simp only[BX];rw[pE,List.take_set_of_le (bG k),List.getElem?_set_self ax]
   simp
def amt{m:Nat}(h:ku m o) (a:BX o ≠ []):BX (qN o)=(BX o).tail/\ku m (qN o)/\∃xs k,o=aa (xs,k)/\0<k/\k<=ah xs/\ix xs ((k:Int)-1)=hd (BX o):=by
 cases o with
 |none=>exact absurd rfl a
 |some p=>
  obtain⟨xs,k⟩:=p;simp only[ku]at h;have b:0<k:=by
   rcases Nat.eq_zero_or_pos k with rfl|b
   .simp[BX]at a
   .exact b
  obtain⟨k,rfl⟩:∃j,k=j+1:=⟨k-1,ax⟩
  have e:xs.take (k+1)=xs.take k ++ [xs[k]]:=by
   rw[pE,dG ax];rfl
  refine⟨?_,by simp[qN,ku];omega,xs,k+1,rfl,ax,ax,?_⟩
  .show(xs.take k).reverse=((xs.take (k+1)).reverse).tail
   rw[e,List.reverse_append];rfl
  .show _=hd ((xs.take (k+1)).reverse)
   rw[e,show((k+1:Nat):Int)-1=(k:Int)by omega,bt ax,List.reverse_append]
   rfl
def amu (x:Int) (o:Option (ak×Nat)) (h:ku 100000 o):L KP [.ptr 0 1 0,.int x] (E6 o)=aa (.bY [],E6 (ks x o)):=by
 refine pa (akc rfl ?_);cases o with
 |none=>simp[E6,ks]
 |some p=>
  obtain⟨xs,k⟩:=p;simp only[ku]at h
  by_cases a:ah xs=k
  .simp[E6,ks,a];omega
  .simp[E6,ks,a,show k<ah xs by omega];omega
def Ud (xs:ak) (k:Nat) (a:0<k) (b:k<=ah xs) (d:k<=100000):L zd [.ptr 0 1 0] (E6 (aa (xs,k)))=aa (.int (ix xs ((k:Int)-1)),E6 (qN (aa (xs,k)))):=by
 refine pa (akf rfl ?_);simp[E6,qN]
 (repeat' apply And.intro)<;>omega
def aS.step (n:aS) (p:Int×ak) (x:Int):Int×ak:=
 if x<n.ay then(ix (ix n.call p.1) x,ix (ix n.push p.1) x::p.2)
 else if x<n.ay+n.aG then(ix (ix n.aH p.1) (x-n.ay),p.2)
 else(ix (ix (ix n.aP p.1) (hd p.2)) (x-n.ay-n.aG),p.2.tail)
def aS.run (n:aS) (s:Int) (w:ak):Int×ak:=w.foldl n.step (s,[])
def aS.cx (n:aS) (s:Int) (w:ak) (i:Int):Int×ak:=(w.take (aj i)).foldl n.step (s,[])
def BY(a:0<=i) (b:i<ah w):n.cx s w (i+1)=n.step (n.cx s w i) (ix w i):=T7 a b
def amv(h:(ah w:Int)<=i):n.cx s w i=n.run s w:=T8 h
def aS.up (n:aS) (w:ak):Prop:=∀i,0<=i->i<=(ah w:Int)->0<=(n.og w i).1
def amw(o:0<=i) (p:i<=ah w):(n.kN w).2.2<=(n.og w i).2.2/\(n.og w i).2.2<=(n.og w i).1:=by
 have h:∀j:Nat,j<=ah w->(n.og w j).2.2<=(n.og w j).1:=by
  intro j g;cases j with
  |zero=>simp[Ub]
  |succ j=>
   have e:=uZ (n:=n) (w:=w) (i:=j) ax ax
   rw[show((j+1:Nat):Int)=(j:Int)+1 by omega,e]
   simp only[aS.jo];omega
 have l:∀d j:Nat,j+d=ah w->(n.kN w).2.2<=(n.og w j).2.2:=by
  intro d
  induction d with
  |zero=>
   intro j g;rw[<-Uc (n:=n) (w:=w) (i:=j) ax]
   exact Int.le_refl _
  |succ d m=>
   intro j g;have:=m (j+1) ax
   have e:=uZ (n:=n) (w:=w) (i:=j) ax ax
   rw[show((j+1:Nat):Int)=(j:Int)+1 by omega,e]at this
   simp only[aS.jo]at this;omega
 have a:=h (aj i) ax
 have b:=l (ah w-aj i) (aj i) ax
 rw[show((aj i:Nat):Int)=i by omega]at a b
 exact⟨b,a⟩
def GQ(h:(n.kN w).2.2=0):n.up w:=λi a b=>by
 have:=amw (n:=n) a b;omega
def BZ(p:n.Ok)(B:n.word w) (C:n.up w)(D:0<=s/\s<ah n.az)(I:0<=i) (J:i<=ah w) :
  (0<=(n.cx s w i).1/\(n.cx s w i).1<ah n.az)/\(ah (n.cx s w i).2:Int)=(n.og w i).1/\∀g∈(n.cx s w i).2,0<=g/\g<n.aL:=by
 have key:∀j:Nat,j<=ah w->(0<=(n.cx s w j).1/\(n.cx s w j).1<ah n.az)/\(ah (n.cx s w j).2:Int)=(n.og w j).1/\∀g∈(n.cx s w j).2,0<=g/\g<n.aL:=by
  intro j
  induction j with
  |zero=>intro _;exact⟨D,rfl,by simp[aS.cx]⟩
  |succ j E=>
   intro K;obtain⟨a,b,c⟩:=E ax
   have e:=BY (n:=n) (s:=s) (w:=w) (i:=j) ax ax
   have x:=uZ (n:=n) (w:=w) (i:=j) ax ax
   have y:=B.2 _ (bh (l:=w) (n:=j) ax ax)
   have d:=C (j+1) ax ax
   rw[show((j+1:Nat):Int)=(j:Int)+1 by omega,e,x]
   rw[x]at d;simp only[aS.jo,aS.zo]at d ⊢;unfold aS.step
   by_cases m:ix w j<n.ay
   .rw[aD m]at d ⊢
    rw[aD m];have F:=p.call _ _ a.1 a.2 y.1 m;have G:=p.push _ _ a.1 a.2 y.1 m;refine⟨F,aT,λg q=>?_⟩
    rcases cC.1 q with rfl|q
    .exact G
    .exact c g q
   rw[aC m]at d ⊢;rw[aC m]
   by_cases z:ix w j<n.ay+n.aG
   .rw[aD z]
    rw[aC (show ¬n.ay+n.aG<=ix w j by omega)]
    exact⟨p.aH _ _ a.1 a.2 ax ax,b,c⟩
   .rw[aC z]
    rw[aD (show n.ay+n.aG<=ix w j by omega)]at d ⊢
    have r:(n.cx s w j).2 ≠ []:=λh=>by rw[h]at b;simp at b;omega
    obtain⟨g,l,o⟩:=List.exists_cons_of_ne_nil r;have A:=c g (by rw[o];simp)
    rw[o]at b c ⊢;simp only[Lu,List.tail_cons];refine⟨p.aP _ _ _ a.1 a.2 A.1 A.2 ax ax,?_,λH u =>c H (by simp[u])⟩
    simp at b;omega
 have:=key (aj i) ax
 rw[show((aj i:Nat):Int)=i by omega]at this
 exact this
def aS.gu (n:aS) (w:ak):Bool:=decide ((n.kN w).2.2=0)&&decide ((n.kN w).1=0)
def aS.syms (n:aS):Int:=n.ay+n.aG+n.aM
def aS.matched (n:aS) (w:ak):Bool:=decide (n.bI=0)&&(decide (iZ w n.syms=0)&&n.gu w)
def Ok.sum(h:n.Ok):lA (n.ay+n.aG)=ad/\lA (n.ay+n.aG+n.aM)=ad:=by
 have:=h.ay;have:=h.aG;have:=h.aM;rw[rO,rO];omega
def aS.acc (n:aS) (w:ak):Bool×Int:=
 if n.bI ≠ 0 then(ae,n.bI)
 else if iZ w n.syms ≠ 0 then(ae,iZ w n.syms)
 else if 64<(n.kN w).2.1 then(ae,16)
 else if n.gu w=ae then(ae,0)
 else(ix n.az (n.run n.aF w).1,0)
def GR(h:n.gu w=ad):(n.kN w).2.2=0/\(n.kN w).1=0:=by simpa[aS.gu]using h
def B3 (n:aS) (hf:n.fits) (w:ak) (hl:(ah w:Int)<=9223372036854775807):PC wN [n.av,iL w]=aa (.bY [.bool (n.acc w).1,.int (n.acc w).2]):=by
 refine cB (ajO rfl ?_);have e1:=zn n hf
 by_cases hv:n.bI=0
 case neg=>simp[e1,hv,aS.acc]
 have ok:=oR hv;have e2:=T9 n (Ok.sum ok).1 (Ok.sum ok).2;have e3:PC EJ [iL w,.int (n.ay+n.aG+n.aM)]=aa (.int (iZ w n.syms)):=ami w _ hl
 by_cases hw:iZ w n.syms=0
 case neg=>simp[e1,hv,e2,e3,hw,aS.acc]
 have wK:=Lq hw;have e4:PC EK [n.av,iL w]=aa (.bY [.int (n.kN w).2.1,.bool (n.gu w)]):=amp n w (Ok.sum ok).1 (by have:=wK.1;omega)
 by_cases hm:64<(n.kN w).2.1
 .simp[e1,hv,e2,e3,hw,e4,hm,aS.acc]
 by_cases hb:n.gu w=ad
 case neg=>simp[e1,hv,e2,e3,hw,e4,hm,hb,aS.acc]
 have hu:=GQ (GR hb).1;have hs:=ok.aF;rw[show n.acc w=(ix n.az (n.run n.aF w).1,0)by simp[aS.acc,hv,hw,hm,hb]]
 simp[e1,hv,e2,e3,hw,e4,hm,hb];refine bB (λp:Int×Option (ak×Nat)=>[(7,.int p.1),(12,.int (n.cx n.aF w p.1).1)]) (λp=>E6 p.2) (λp=>(0<=p.1/\p.1<=ah w)/\ku (aj p.1) p.2/\BX p.2=(n.cx n.aF w p.1).2) (λp=>aj (ah w-p.1)) (0,ab) (by rfl) ⟨⟨aA,aA⟩,by simp[ku],rfl⟩ ?_
 rintro⟨i,o⟩ ⟨⟨i0,i1⟩,h1,h2⟩;dsimp only at i0 i1 h1 h2 ⊢;obtain⟨⟨a0,a1⟩,b,c⟩:=BZ ok wK hu hs i0 i1
 by_cases hi:i<ah w
 .have e:=BY (n:=n) (s:=n.aF) i0 hi
  have hx:=wK.2 _ (bh i0 hi);have ln:=ok.lens;have rw' :=ok.row _ a0 a1;have hc:=ok.ay;have jl:=ok.aG;have N5:=ok.aM;have Ue:=wK.1;have N6:ku 100000 o:=by
   cases o with
   |none=>trivial
   |some p=>obtain⟨xs,k⟩:=p;simp only[ku]at h1 ⊢;omega
  by_cases c1:ix w i<n.ay
  .have p1:=ams (x:=ix (ix n.push (n.cx n.aF w i).1) (ix w i)) h1
   have e' : n.cx n.aF w (i+1)=(ix (ix n.call (n.cx n.aF w i).1) (ix w i),ix (ix n.push (n.cx n.aF w i).1) (ix w i)::(n.cx n.aF w i).2):=by rw[e,aS.step,aD c1]
   have q1:=Lr n (n.cx n.aF w i).1 (ix w i) a0 ax ax hx.1 ax ax
   have q2:=amu (ix (ix n.push (n.cx n.aF w i).1) (ix w i)) o N6;simp[hi,i0,c1,q1,q2,-aK]
   (repeat' apply And.intro)<;>try omega
   refine a8 (i+1,ks (ix (ix n.push (n.cx n.aF w i).1) (ix w i)) o) (by simp[e']) aA ⟨⟨aR,aR⟩,?_,?_⟩ aR
   .show ku (aj (i+1)) _
    rw[show(aj (i+1))=aj i+1 by omega];exact p1.2
   .show _=(n.cx n.aF w (i+1)).2
    rw[e', <-h2];exact p1.1
  by_cases c2:ix w i<n.ay+n.aG
  .have e' : n.cx n.aF w (i+1)=(ix (ix n.aH (n.cx n.aF w i).1) (ix w i-n.ay),(n.cx n.aF w i).2):=by rw[e,aS.step,aC c1,aD c2]
   have q1:=Ls n (n.cx n.aF w i).1 (ix w i-n.ay) a0 ax ax ax
   simp[hi,i0,c1,c2,q1,-aK]
   (repeat' apply And.intro)<;>try omega
   refine a8 (i+1,o) (by simp[e']) aA ⟨⟨aR,aR⟩,?_,?_⟩ aR
   .cases o with
    |none=>trivial
    |some p=>obtain⟨xs,k⟩:=p;simp only[ku]at h1 ⊢;omega
   .show _=(n.cx n.aF w (i+1)).2
    rw[e'];exact h2
  .have e' : n.cx n.aF w (i+1)=(ix (ix (ix n.aP (n.cx n.aF w i).1) (hd (n.cx n.aF w i).2)) (ix w i-n.ay-n.aG),(n.cx n.aF w i).2.tail):=by rw[e,aS.step,aC c1,aC c2]
   have kJ:=hu (i+1) ax ax
   rw[uZ i0 hi]at kJ;simp only[aS.jo,aS.zo,aC c1,aD (show n.ay+n.aG<=ix w i by omega)]at kJ
   have fg:(n.cx n.aF w i).2 ≠ []:=λh=>by rw[h]at b;simp at b;omega
   obtain⟨p1,p2,xs,k,rfl,p3,p4,p5⟩:=amt h1 (by rw[h2];exact fg)
   rw[h2]at p1 p5;have hg:hd (n.cx n.aF w i).2∈(n.cx n.aF w i).2:=by
    obtain⟨g,l,hgl⟩:=List.exists_cons_of_ne_nil fg;rw[hgl,Lu];simp
   have qg:=c _ hg;have d3:=ok.zp _ _ a0 a1 qg.1 qg.2;have q1:=Lt n (n.cx n.aF w i).1 (hd (n.cx n.aF w i).2) (ix w i-n.ay-n.aG) a0 ax qg.1 ax ax ax
   have q2:=Ud xs k p3 p4 N6.2;rw[p5]at q2;simp[hi,i0,c1,c2,q1,q2,-aK]
   (repeat' apply And.intro)<;>try omega
   refine a8 (i+1,qN (aa (xs,k))) (by simp[e']) aA ⟨⟨aR,aR⟩,?_,?_⟩ aR
   .simp only[qN,ku]at p2 ⊢;omega
   .show _=(n.cx n.aF w (i+1)).2
    rw[e'];exact p1
 .rw[amv (n:=n) (s:=n.aF) (w:=w) (i:=i) ax]at a0 a1 ⊢
  simp[hi,a0,a1]
def Lv:∀{n:Nat}{cs:ao},ah cs<=n->chunk ab n cs=cs
 |0,cs,h=>by
  have:cs=[]:=eK ax
  subst this;rfl
 |n+1,[],h=>rfl
 |n+1,c::cs,h=>by simp only[chunk];rw[Lv du]
def Uf{a:Type}{f g:a->AV}{v:AV->Option AV}(h:∀x,v (f x)=aa (g x)):∀{xs:List a},cu v (xs.map f)=aa (xs.map g)
 | []=>rfl
 |x::xs=>by simp only[da,cu,h x,Uf h (xs:=xs)]
variable{α:Type}{σ:aq}{fr:Bool}{k:Nat}{st:fR}
def Lw{f g:α->AV}{b n:Nat}{xs:List α}(h:aQ σ b=aa ⟨ab,xs.map f,st⟩) (a:st.gx=ad) (d:n=ah xs) (e:∀x,view σ fr k (f x)=aa (g x)) :
  view σ fr (k+1) (.sl b n 0 n)=aa (.aX ae (xs.map g)):=by
 subst d;have i:upto σ b (ah xs)=aa ⟨ab,xs.map f,st⟩:=by
  unfold upto;rw[h];cases st<;>simp at a ⊢
 unfold view;simp only[i,ba,db,mG,gQ,Nat.mul_one,bG,dM];rw[Lv aA,Uf e]
theorem amx{b n:Nat}{xs:List Bool}(h:aQ σ b=aa ⟨ab,xs.map .bool,st⟩) (a:st.gx=ad) (d:n=ah xs):view σ fr vd (.sl b n 0 n)=aa (bL xs):=Lw (k:=11) h a d λ_=>rfl
structure eZ where
 size:Nat
 call:Int->Int->Int×Int
 aH:Int->Int->Int
 aP:Int->Int->Int->Int
 ay:Int
 aG:Int
 aM:Int
structure eZ.Ok (M:eZ):Prop where
 size:(M.size:Int)<=100000
 ay:0<=M.ay/\M.ay<=100000
 aG:0<=M.aG/\M.aG<=100000
 aM:0<=M.aM/\M.aM<=100000
 call:∀s c,0<=s->s<(M.size:Int)->0<=c->c<M.ay->0<=(M.call s c).1/\(M.call s c).1<(M.size:Int)
 aH:∀s i,0<=s->s<(M.size:Int)->0<=i->i<M.aG->0<=M.aH s i/\M.aH s i<(M.size:Int)
 aP:∀s c t r,0<=s->s<(M.size:Int)->0<=c->c<M.ay->0<=t->t<(M.size:Int)->0<=r->r<M.aM->0<=M.aP t (M.call s c).2 r/\M.aP t (M.call s c).2 r<(M.size:Int)
inductive gA (M:eZ):Int->Int->Prop
 |refl (s:Int):gA M s s
 |bp (s i t:Int):0<=i->i<M.aG->gA M (M.aH s i) t->gA M s t
 |call (s c p r t:Int):0<=c->c<M.ay->0<=r->r<M.aM->gA M (M.call s c).1 p->gA M (M.aP p (M.call s c).2 r) t->gA M s t
variable{M:eZ}{a b c:Int}
def gA.trans(h:gA M a b) (k:gA M b c):gA M a c:=by
 induction h with
 |refl s=>exact k
 |bp s i t h0 h1 _ ih=>exact .bp s i c h0 h1 (ih k)
 |call s x p r t h0 h1 h2 h3 h4 _ _ ih=>exact .call s x p r c h0 h1 h2 h3 h4 (ih k)
def gA.range(hM:M.Ok)(h:gA M a b) (ha:0<=a/\a<(M.size:Int)):0<=b/\b<(M.size:Int):=by
 induction h with
 |refl s=>exact ha
 |bp s i t h0 h1 _ ih=>exact ih (hM.aH s i ha.1 ha.2 h0 h1)
 |call s x p r t h0 h1 h2 h3 h4 _ qG rL=>
  have hp:=qG (hM.call s x ha.1 ha.2 h0 h1);exact rL (hM.aP s x p r ha.1 ha.2 h0 h1 hp.1 hp.2 h2 h3)
inductive jq (S:Int->Int->Prop):Int->Int->Prop
 |refl (s:Int):jq S s s
 |tail (s t u:Int):jq S s t->S t u->jq S s u
variable{S:Int->Int->Prop}
def jq.trans(h:jq S a b) (k:jq S b c):jq S a c:=by
 induction k with
 |refl=>exact h
 |tail t u _ h2 ih=>exact .tail a t u ih h2
def jq.head(h:S a b) (k:jq S b c):jq S a c:=(jq.tail a a b (.refl a) h).trans k
def amy(l:M.Ok)(sound:∀s t,0<=s->s<(M.size:Int)->S s t->gA M s t)
  (bp:∀s i,0<=s->s<(M.size:Int)->0<=i->i<M.aG->S s (M.aH s i))
  (cl:∀s c p r,0<=s->s<(M.size:Int)->0<=c->c<M.ay->0<=r->r<M.aM->jq S (M.call s c).1 p->S s (M.aP p (M.call s c).2 r))
   (d:0<=a/\a<(M.size:Int)):jq S a b↔gA M a b:=by
 constructor
 .intro h
  have key:gA M a b/\(0<=b/\b<(M.size:Int)):=by
   induction h with
   |refl=>exact⟨.refl a,d⟩
   |tail t u _ m e=>
    have:=sound t u e.2.1 e.2.2 m;exact⟨e.1.trans this,this.range l e.2⟩
  exact key.1
 .intro h
  induction h with
  |refl s=>exact .refl s
  |bp s i t g j _ e=>
   exact jq.head (bp s i d.1 d.2 g j) (e (l.aH s i d.1 d.2 g j))
  |call s x p r t g j m w z _ n o=>
   have q:=l.call s x d.1 d.2 g j;have y:=z.range l q;exact jq.head (cl s x p r d.1 d.2 g j m w (n q)) (o (l.aP s x p r d.1 d.2 g j y.1 y.2 m w))
def rel (m:List (List Bool)) (s t:Int):Prop:=0<=s/\s<ah m/\0<=t/\t<ah m/\ix (ix m s) t=ad
variable{j:Int}
def E7{l:List Bool}{i:Nat}{x:Bool}(b:0<=j) (a:i<ah l):ix (l.set i x) j=if j=i then x else ix l j:=by
 unfold ix;rw[fI,fI,List.getElem?_set]
 by_cases h:i=aj j
 .rw[aD h,aD a,aD ax];rfl
 .rw[aC h,aC ax]
def E8{l:List Bool}{i:Nat}(h:i<ah l) (a:ix l i=ae):(l.set i ad).count ae+1=l.count ae:=by
 rw[bt h]at a;rw[List.count_set h];simp[a];have:0<l.count ae:=List.count_pos_iff.2 (by rw[<-a];exact List.getElem_mem h)
 omega
structure GS (m:List (List Bool)) (a:Int) (seen:List Bool) (l:ak):Prop where
 len:ah seen=ah m
 mem:∀t,0<=t->t<(ah m:Int)->(ix seen t=ad↔t∈l)
 gi:∀t∈l,0<=t/\t<(ah m:Int)
 star:∀t∈l,jq (rel m) a t
 aF:a∈l
 cnt:ah l+seen.count ae=ah m
def E9 [Inhabited α]{l m:List α}(a:0<=j) (b:j<ah l):ix (l++m) j=ix l j:=by
 unfold ix;rw[fI,fI,dq ax]
def Lx{n:Nat}{x:Bool}(a:0<=j) (b:j<n):ix (ag n x) j=x:=by
 unfold ix;rw[fI,List.getElem?_replicate,aD ax];rfl
variable{m:List (List Bool)}
def GS.begin(ha:0<=a/\a<ah m):GS m a ((ag (ah m) ae).set (aj a) ad) [a]:=by
 have hr:aj a<ah (ag (ah m) ae):=aT
 refine⟨aA,λt t0 t1=>?_,by simpa using ha,by simpa using jq.refl a,aA,?_⟩
 .rw[E7 t0 hr]
  by_cases h:t=aj a
  .rw[aD h];simp;omega
  .rw[aC h,Lx t0 ax];simp;omega
 .have:=E8 hr (by rw[Lx ax ax])
  simp at this ⊢;omega
variable{t:Int}
def GS.more{seen:List Bool}(h:GS m a seen l) (hs:s∈l) (fT:rel m s t) (hn:ix seen t=ae):GS m a (seen.set (aj t) ad) (l ++ [t]):=by
 have amz :=fT;obtain⟨_,_,t0,t1,_⟩:=fT;have hr:aj t<ah seen:=by rw[h.len];omega
 refine⟨by rw[pF];exact h.len,λu u0 u1=>?_,λu hu=>?_,λu hu=>?_,by simp[h.aF],?_⟩
 .rw[E7 u0 hr]
  by_cases Fa:u=aj t
  .rw[aD Fa];simp;right;omega
  .rw[aC Fa,h.mem u u0 u1];simp;intro;omega
 .rcases dI.1 hu with hu|hu
  .exact h.gi u hu
  .simp at hu;subst hu;exact⟨t0,t1⟩
 .rcases dI.1 hu with hu|hu
  .exact h.star u hu
  .simp at hu;subst hu;exact .tail a s u (h.star s hs) amz
 .have:=E8 hr (by rw[show((aj t:Nat):Int)=t by omega];exact hn)
  have:=h.cnt;simp;omega
def amA (m:List (List Bool)) (a:Int) (hm:(ah m:Int)<=100000) (Y:∀r∈m,ah r=ah m) (R:0<=a/\a<ah m) :
  LX L Ja [.aX ae (m.map bL),.int a] [] (λv J =>∃seen:List Bool,cK J ad v=aa (bL seen)/\ah seen=ah m/\∀t,0<=t->t<(ah m:Int)->(ix seen t=ad↔jq (rel m) a t)):=by
 refine ak4 rfl ?_;simp[-List.map_replicate,-List.map_append,-List.map_set,R]
 (repeat' apply And.intro)<;>try omega
 refine bB (λp:Int×List Bool×ak=>[(3,.int p.1),(4,.sl 1 (ah p.2.2) 0 (ah p.2.2))]) (λp=>[⟨ab,p.2.1.map .bool,.live⟩,⟨ab,p.2.2.map .int,.live⟩])
  (λp=>(0<=p.1/\p.1<=ah p.2.2)/\GS m a p.2.1 p.2.2/\∀k,0<=k->k<p.1->∀t,rel m (ix p.2.2 k) t->t∈p.2.2)
  (λp=>2*p.2.1.count ae+aj (ah p.2.2-p.1)) (0,(ag (ah m) ae).set (aj a) ad,[a]) bS ⟨aA,GS.begin R,λk K M=>by simp at M;omega⟩ ?_
 rintro⟨i,seen,l⟩ ⟨⟨F,i1⟩,g,N⟩;dsimp only at F i1 g N ⊢;have S:=g.cnt
 by_cases G:i<ah l
 .have T:=bh F G
  have d:=g.gi _ T;have U:=Y _ (bh d.1 d.2);have hlen:=g.len;simp[-List.map_replicate,-List.map_append,-List.map_set,-aK,G,F,d.1,d.2];refine bB (λp:Int×List Bool×ak=>[(5,.int p.1),(4,.sl 1 (ah p.2.2) 0 (ah p.2.2))]) (λp=>[⟨ab,p.2.1.map .bool,.live⟩,⟨ab,p.2.2.map .int,.live⟩])
   (λp=>(0<=p.1/\p.1<=ah m)/\GS m a p.2.1 p.2.2/\(∃more,p.2.2=l++more)/\(∀t,0<=t->t<p.1->rel m (ix l i) t->t∈p.2.2)/\2*p.2.1.count ae+ah p.2.2<=2*seen.count ae+ah l)
   (λp=>aj (ah m-p.1)) (0,seen,l) bS ⟨aA,g,⟨[],aA⟩,λt H A=>by simp at A;omega,bG _⟩ ?_
  rintro⟨j,b, B⟩ ⟨⟨z,Z⟩,n,⟨more,o⟩,C,O⟩;dsimp only at z Z n o C O ⊢;have V:=n.cnt;have W:=n.len;have gn:=n.len
  by_cases X:j<ah m
  .have e : j<ah (ix m (ix l i)):=by omega
   by_cases I:ix (ix m (ix l i)) j=ad
   .by_cases P:ix b j=ad
    .simp[-List.map_replicate,-List.map_append,-List.map_set,-aK,e, z,I,P,show (aj j)<ah b by omega,show j<(ah m:Int)by omega]
     (repeat' apply And.intro)<;>try omega
     refine a8 (j+1,b, B) aA aA ⟨⟨aR,aR⟩,n,⟨more,o⟩,iY (λ_=>(n.mem j z X).1 P) C,O⟩ aR
    .have D:rel m (ix l i) j:=⟨d.1,d.2,z,X,I⟩
     have w : ix b j=ae:=by simpa using P
     have q:=n.more (s:=ix l i) (by rw[o];exact dI.2 (.inl T)) D w
     have qc:=E8 (l:=b) (i:=aj j) ax (by rw[show((aj j:Nat):Int)=j by omega];exact w)
     simp[-List.map_replicate,-List.map_append,-List.map_set,-aK,e, z,I,w, show (aj j)<ah b by omega,show j<(ah m:Int)by omega]
     (repeat' apply And.intro)<;>try omega
     refine a8 (j+1,b.set (aj j) ad,B ++ [j]) aA aA ⟨⟨aR,aR⟩,q,⟨more ++ [j],by simp[o]⟩,?_,?_⟩ aR
     .exact iY (λ_=>aA) λt H A h=>dI.2 (.inl (C t H A h))
     .simp;omega
   .have x : ix (ix m (ix l i)) j=ae:=by simpa using I
    simp[-List.map_replicate,-List.map_append,-List.map_set,-aK,e, z,x]
    (repeat' apply And.intro)<;>try omega
    refine a8 (j+1,b, B) aA aA ⟨⟨aR,aR⟩,n,⟨more,o⟩,iY (λh=>by rw[h.2.2.2.2]at x; simp at x) C,O⟩ aR
  .have e : ¬j<ah (ix m (ix l i)):=by omega
   have hll:ah l<=ah B:=by rw[o];simp
   simp[-List.map_replicate,-List.map_append,-List.map_set,-aK,e]
   (repeat' apply And.intro)<;>try omega
   refine a8 (i+1,b, B) aA aA ⟨⟨aR,aR⟩,n,?_⟩ aR
   dsimp only;refine iY ?_ ?_
   .intro t y
    rw[o,E9 F G]at y;exact C t y.2.2.1 (by have:=y.2.2.2.1;omega) y
   .intro k K M t y
    rw[o,E9 K ax]at y
    have:=N k K M t y;rw[o];exact dI.2 (.inl this)
 .simp[G]
  refine⟨seen,amx rfl aA (by rw[g.len]),g.len,λt H A=>?_⟩
  rw[g.mem t H A];refine⟨g.star t,λQ=>?_⟩;have key:∀u,jq (rel m) a u->u∈l:=by
   intro u hu
   induction hu with
   |refl=>exact g.aF
   |tail u v _ E ih=>
    obtain⟨k,hk,rfl⟩:=fY.1 ih;rw[<-bt hk]at E;exact N k ax ax v E
  exact key t Q
abbrev Fb (r:List Bool):aO:=⟨ab,r.map .bool,.live⟩
abbrev refs (k N:Nat):ao:=(af k).map λi=>AV.sl (2+i) N 0 N
def gu (box:aO) (N:Nat) (m:List (List Bool)) (rest:aq):aq:=box::⟨ab,refs (ah m) N++ag (N-ah m) .aJ,.live⟩::(m.map Fb++rest)
def tx:∀(σ:aq) (i:Nat),aQ σ i=σ[i]?
 | [],i=>by simp[aQ]
 |x::r,0=>rfl
 |x::r,i+1=>by simp[aQ,tx r i]
def qO:∀(σ:aq) (i:Nat) (B:aO),aV σ i B=σ.set i B
 | [],i,B=>by simp[aV]
 |x::r,0,B=>rfl
 |x::r,i+1,B=>by simp[aV,qO r i B]
variable{box:aO}{N:Nat}{rest:aq}
def Ly(a:0<=s) (b:s<ah m):aQ (gu box N m rest) (2+aj s)=aa (Fb (ix m s)):=by
 rw[tx,gu,show 2+aj s=aj s+1+1 by omega,List.getElem?_cons_succ,List.getElem?_cons_succ,dq aT,gP,mf a b]
 rfl
variable{r:List Bool}
def Ug(a:0<=s) (b:s<ah m):aV (gu box N m rest) (2+aj s) ⟨ab,r.map .bool,.live⟩=gu box N (m.set (aj s) r) rest:=by
 rw[qO,gu,gu,show 2+aj s=aj s+1+1 by omega,sQ,sQ,qu,aD aT]
 simp[List.map_set]
theorem Lz:aQ (gu box N m rest) 1=aa ⟨ab,refs (ah m) N++ag (N-ah m) .aJ,.live⟩:=rfl
def Uh(h:ah m=N):aQ (gu box N m rest) 1=aa ⟨ab,refs N N,.live⟩:=by rw[Lz,h];simp
theorem Ui:aQ (gu box N m rest) 0=aa box:=rfl
def amB(a:0<=s) (b:s<N):ix (af N) s=aj s:=by
 unfold ix;rw[fI,wj ax];rfl
structure GU (t:Nat) (v:AV) (M:eZ):Prop where
 loc:bC v=ad
 wk:Ab.wk v=v
 size:∃f,fL [(kM,kq),(jY,oO)] t=aa f/\PC f [v]=aa (.int M.size)
 call:∃f,fL [(kM,uT),(jY,za)] t=aa f/\∀s c,0<=s->s<(M.size:Int)->0<=c->c<M.ay->PC f [v,.int s,.int c]=aa (.bY [.int (M.call s c).1,.int (M.call s c).2])
 aH:∃f,fL [(kM,uQ),(jY,y9)] t=aa f/\∀s i,0<=s->s<(M.size:Int)->0<=i->i<M.aG->PC f [v,.int s,.int i]=aa (.int (M.aH s i))
 aP:∃f,fL [(kM,uU),(jY,zb),(Je,zd)] t=aa f/\∀s c u r,0<=s->s<(M.size:Int)->0<=c->c<M.ay->0<=u->u<(M.size:Int)->0<=r->r<M.aM->PC f [v,.int u,.int (M.call s c).2,.int r]=aa (.int (M.aP u (M.call s c).2 r))
def aS.bZ (n:aS):eZ:=⟨ah n.az,λs c=>(ix (ix n.call s) c,ix (ix n.push s) c),λs i=>ix (ix n.aH s) i,λs g r=>ix (ix (ix n.aP s) g) r,n.ay,n.aG,n.aM⟩
def rR(h:n.Lp K):n.bZ.Ok:=by
 have:=h.eC;have:=h.ay;have:=h.aG;have:=h.aM;refine⟨?_,?_,?_,?_,λs c a b d e=>h.call s c a b d e,λs i a b d e=>h.aH s i a b d e,λs c t r a b d e g j l m=>?_⟩<;>simp only[aS.bZ]at *<;>try omega
 have q:=h.push s c a b d e;exact h.aP t _ r g j q.1 q.2 l m
def Sq (N:Nat) (m:List (List Bool)):Prop:=ah m=N/\∀r∈m,ah r=N
def Sq.row(h:Sq N m)(h0:0<=s) (h1:s<N):ah (ix m s)=N:=h.2 _ (bh h0 (by rw[h.1];exact h1))
def pb (m:List (List Bool)) (s u:Int):List (List Bool):=m.set (aj s) ((ix m s).set (aj u) ad)
def amC [Inhabited α]{l:List α}{i:Nat}{x:α}(b:0<=j) (a:i<ah l):ix (l.set i x) j=if j=i then x else ix l j:=by
 unfold ix;rw[fI,fI,List.getElem?_set]
 by_cases h:i=aj j
 .rw[aD h,aD a,aD ax];rfl
 .rw[aC h,aC ax]
variable{u:Int}
def Uj(h:Sq N m)(b:0<=s) (d:s<N):Sq N (pb m s u):=by
 refine⟨by rw[pb,pF,h.1],λr a=>?_⟩
 rcases List.mem_or_eq_of_mem_set a with a|rfl
 .exact h.2 r a
 .rw[pF,h.row b d]
def LA(h:Sq N m)(l:0<=s) (i:s<N) (n:0<=u) (o:u<N) (d:0<=a) (j:0<=b):ix (ix (pb m s u) a) b=if a=s/\b=u then ad else ix (ix m a) b:=by
 unfold pb;rw[amC d (by rw[h.1];omega)]
 by_cases e:a=s
 .subst e
  rw[aD ax,E7 j (by rw[h.row d i];omega)]
  by_cases g:b=u
  .rw[aD ax,aD ⟨rfl,g⟩]
  .rw[aC ax,aC jC]
 .rw[aC ax,aC fX]
def amD(h:Sq N m)(d:0<=s) (g:s<N) (i:0<=u) (o:u<N):rel (pb m s u) a b↔rel m a b\/(a=s/\b=u):=by
 have q :=Uj (u:=u) h d g;unfold rel;rw[h.1,q.1];constructor
 .rintro⟨j,p,l,b1,n⟩
  rw[LA h d g i o j l]at n
  by_cases e:a=s/\b=u
  .exact .inr e
  .rw[aC e]at n;exact .inl ⟨j,p,l,b1,n⟩
 .rintro(⟨j,p,l,b1,n⟩|⟨rfl,rfl⟩)
  .refine⟨j,p,l,b1,?_⟩
   rw[LA h d g i o j l,n];simp
  .refine⟨d,g,i,o,?_⟩
   rw[LA h d g i o d i];simp
def cf (m:List (List Bool)):Nat:=(m.map λr=>r.count ae).sum
def Uk:∀{l:List Nat}{i:Nat}{x y:Nat},l[i]? = aa y->x+1=y->(l.set i x).sum+1=l.sum
 | [],i,x,y,h,_=>by simp at h
 |a::l,0,x,y,h,e=>by simp at h;subst h;simp[List.set];omega
 |a::l,i+1,x,y,h,e=>by
  have:=Uk (l:=l) (i:=i) (x:=x) (y:=y) du e
  simp only[sQ,List.sum_cons];omega
def Ul(h:Sq N m)(a:0<=s) (b:s<N) (e:0<=u) (g:u<N) (d:ix (ix m s) u=ae):cf (pb m s u)+1=cf m:=by
 unfold cf pb;rw[List.map_set];refine Uk (y:=(ix m s).count ae) ?_ (E8 (by rw[h.row a b];omega) (by rw[show((aj u:Nat):Int)=u by omega];exact d))
 rw[gP,mf a (by rw[h.1];exact b)];rfl
def LC(h:Sq N m)(j:0<=s) (l:s<N) (n:0<=u) (o:u<N) (d:ix (ix m s) u=ad):pb m s u=m:=by
 have e:(ix m s).set (aj u) ad=ix m s:=by
  apply gF aA
  intro i g a;rw[jm];split
  .rename_i b
   subst b;rw[<-bt a,show((aj u:Nat):Int)=u by omega,d]
  .rfl
 unfold pb;rw[e];apply gF aA
 intro i g a;rw[jm];split
 .rename_i b
  subst b;rw[<-bt a,show((aj s:Nat):Int)=s by omega]
 .rfl
def zq (M:eZ) (R:List (List Bool)) (s u:Int):Prop:=∃c p r,(0<=c/\c<M.ay)/\(0<=r/\r<M.aM)/\rel R (M.call s c).1 p/\u=M.aP p (M.call s c).2 r
structure rS (M:eZ) (R:List (List Bool)) (m m' : List (List Bool)) (ch:Bool):Prop where
 sq:Sq M.size m'
 mono:∀s t,rel m s t->rel m' s t
 sound:∀s t,rel m' s t->rel m s t\/zq M R s t
 no:ch=ae->m' = m
 yes:ch=ad->cf m' < cf m
 le:cf m' <=cf m
variable{m': List (List Bool)}
def rS.more{R m: List (List Bool)}{ch:Bool}(h:rS M R m m' ch)(s0:0<=s) (s1:s<(M.size:Int)) (u0:0<=u) (u1:u<(M.size:Int)) (hw:zq M R s u) :
  rS M R m (pb m' s u) (ch || !ix (ix m' s) u)/\rel (pb m' s u) s u/\∀a b,rel m' a b->rel (pb m' s u) a b:=by
 have Al :=s1;have N7 :=u1;have hr:=λa b=>amD (a:=a) (b:=b) h.sq s0 Al u0 N7;refine⟨⟨Uj h.sq s0 Al, λa b BA=>(hr a b).2 (.inl (h.mono a b BA)),λa b BA=>?_,λhc=>?_,λhc=>?_,?_⟩,(hr s u).2 (.inr ⟨rfl,rfl⟩),λa b BA=>(hr a b).2 (.inl BA)⟩
 .rcases(hr a b).1 BA with BA|⟨rfl,rfl⟩
  .exact h.sound a b BA
  .exact .inr hw
 .simp at hc
  rw[LC h.sq s0 Al u0 N7 hc.2];exact h.no hc.1
 .by_cases hv:ix (ix m' s) u=ad
  .rw[LC h.sq s0 Al u0 N7 hv]
   simp[hv]at hc;exact h.yes hc
  .have:=Ul h.sq s0 Al u0 N7 mE
   have:=h.le;omega
 .by_cases hv:ix (ix m' s) u=ad
  .rw[LC h.sq s0 Al u0 N7 hv];exact h.le
  .have:=Ul h.sq s0 Al u0 N7 mE
   have:=h.le;omega
def Um (M:eZ) (box:aO) (m R:List (List Bool)) (rest:aq) (v:AV) (τ:aq):Prop:=∃a m', v = .bool a/\τ=gu box M.size m' rest/\rS M R m m' a/\∀s u,0<=s->s<(M.size:Int)->zq M R s u->rel m' s u
def amE (M:eZ) (P:M.Ok) (t:Nat) (v:AV) (hv:GU t v M) (n:aS) (hc:n.ay=M.ay) (Q:n.aM=M.aM) (box:aO) (m R:List (List Bool)) (rest:aq) (br:Nat)
  (hm:Sq M.size m) (hR:Sq M.size R) (hb:∀m', ah m'=ah m->aQ (gu box M.size m' rest) br=aa ⟨ab,R.map bL,.live⟩) :
  LX L Jb [.iface t v,n.av,.sl 1 M.size 0 M.size,.sl br M.size 0 M.size] (gu box M.size m rest) (Um M box m R rest):=by
 obtain⟨fc,tc,pc⟩:=hv.call;obtain⟨fp,tp,pp⟩:=hv.aP;have sf:=P.size;have hMc:=P.ay;have hMr:=P.aM;have o:=hv.loc;have C:=hv.wk;refine ak5 rfl ?_;simp;refine bB (λp:Int×List (List Bool)×Bool=>[(4,.int p.1),(19,.bool p.2.2)]) (λp=>gu box M.size p.2.1 rest)
  (λp=>(0<=p.1/\p.1<=M.size)/\rS M R m p.2.1 p.2.2/\∀s,0<=s->s<p.1->∀u,zq M R s u->rel p.2.1 s u)
  (λp=>aj (M.size-p.1)) (0,m,ae) bS ⟨aA,⟨hm,λ_ _ h=>h,λ_ _ h=>.inl h,λ_=>rfl,aA,bG _⟩,oQ⟩ ?_
 rintro⟨i,m1,ch⟩ ⟨⟨w,i1⟩,h1,h2⟩;dsimp only at w i1 h1 h2 ⊢
 by_cases z:i<(M.size:Int)
 .simp[-aK,z,hc]
  refine bB (λp:Int×List (List Bool)×Bool=>[(7,.int p.1),(19,.bool p.2.2)]) (λp=>gu box M.size p.2.1 rest)
   (λp=>(0<=p.1/\p.1<=M.ay)/\rS M R m p.2.1 p.2.2/\(∀s,0<=s->s<i->∀u,zq M R s u->rel p.2.1 s u)/\∀c,0<=c->c<p.1->∀q r,0<=r->r<M.aM->rel R (M.call i c).1 q->rel p.2.1 i (M.aP q (M.call i c).2 r))
   (λp=>aj (M.ay-p.1)) (0,m1,ch) bS ⟨aT,h1,h2,oQ⟩ ?_
  rintro⟨c,S,T⟩ ⟨⟨I,c1⟩,g1,g2,g3⟩;dsimp only at I c1 g1 g2 g3 ⊢
  by_cases j:c<M.ay
  .have J:=P.call i c w z I j
   have e1:=pc i c w z I j;have hRr:=hR.row J.1 J.2;have yV:=hb S (by rw[g1.sq.1,hm.1])
   have ZC:=hR.1;simp[-aK,j,tc,o,C,e1,J.1,J.2,yV,show(aj (M.call i c).1)<ah R by omega]
   refine⟨ZC,?_⟩;refine bB (λp:Int×List (List Bool)×Bool=>[(12,.int p.1),(19,.bool p.2.2)]) (λp=>gu box M.size p.2.1 rest)
    (λp=>(0<=p.1/\p.1<=(M.size:Int))/\rS M R m p.2.1 p.2.2/\(∀a b,rel S a b->rel p.2.1 a b)/\∀q,0<=q->q<p.1->∀r,0<=r->r<M.aM->rel R (M.call i c).1 q->rel p.2.1 i (M.aP q (M.call i c).2 r))
    (λp=>aj (M.size-p.1)) (0,S,T) bS ⟨aA,g1,λ_ _ h=>h,oQ⟩ ?_
   rintro⟨q,m3,U⟩ ⟨⟨V,q1⟩,k1,k2,k3⟩;dsimp only at V q1 k1 k2 k3 ⊢
   by_cases E:q<(M.size:Int)
   .have hqr:q<(ah (ix R (M.call i c).1):Int):=by omega
    simp[-aK,hqr,V];refine bB (λp:Int×List (List Bool)×Bool=>[(15,.int p.1),(19,.bool p.2.2)]) (λp=>gu box M.size p.2.1 rest)
     (λp=>(0<=p.1/\p.1<=M.aM)/\rS M R m p.2.1 p.2.2/\(∀a b,rel m3 a b->rel p.2.1 a b)/\∀r,0<=r->r<p.1->rel R (M.call i c).1 q->rel p.2.1 i (M.aP q (M.call i c).2 r))
     (λp=>aj (M.aM-p.1)) (0,m3,U) bS ⟨aT,k1,λ_ _ h=>h,oQ⟩ ?_
    rintro⟨r,g,A⟩ ⟨⟨D,W⟩,X,l2,l3⟩;dsimp only at D W X l2 l3 ⊢
    by_cases F:r<M.aM/\ix (ix R (M.call i c).1) q=ad
    .obtain⟨e,x⟩:=F
     have d:rel R (M.call i c).1 q:=⟨J.1,by rw[hR.1];exact J.2,V,by rw[hR.1];exact E,x⟩
     have B:=P.aP i c q r w z I j V E D e;have e2:=pp i c q r w z I j V E D e;have hw:zq M R i (M.aP q (M.call i c).2 r):=⟨c,q,r,⟨I,j⟩,⟨D,e⟩,d,rfl⟩;obtain⟨n1,n2,n3⟩:=X.more w z B.1 B.2 hw;have hl4:=X.sq.1;have l:=X.sq.row w z;have b1:=Uh (box:=box) (rest:=rest) hl4;have b2:=Ly (box:=box) (N:=M.size) (rest:=rest) (m:=g) w ax
     have b3:=amB (N:=M.size) w z;have b4:=λr=>Ug (box:=box) (N:=M.size) (rest:=rest) (m:=g) (r:=r) w ax
     have fin:∀G:Bool,G=(A || !ix (ix g i) (M.aP q (M.call i c).2 r))->(0<=r+1/\r+1<=M.aM)/\rS M R m (pb g i (M.aP q (M.call i c).2 r)) G/\(∀a b,rel m3 a b->rel (pb g i (M.aP q (M.call i c).2 r)) a b)/\∀y, 0<=y ->y < r+1->rel R (M.call i c).1 q->rel (pb g i (M.aP q (M.call i c).2 r)) i (M.aP q (M.call i c).2 y):=by
      rintro G rfl;exact⟨ax,n1,λa b h=>n3 a b (l2 a b h),iY (λ_=>n2) λy a b h=>n3 _ _ (l3 y a b h)⟩
     have amF:(M.aP q (M.call i c).2 r)<(ah (ix g i):Int):=ax
     cases A with
     |true=>
      simp[-aK,-List.map_set,Q,e,x,tp,o,C,e2,w,z,B.1,B.2,b1,b2,b3,b4,l,show(aj (M.aP q (M.call i c).2 r))<M.size by omega]
      (repeat' apply And.intro)<;>try omega
      exact a8 (r+1,pb g i (M.aP q (M.call i c).2 r),ad) aA (by simp[pb]) (fin ad aA) aR
     |false=>
      cases K:ix (ix g i) (M.aP q (M.call i c).2 r)with
      |true=>
       simp[-aK,-List.map_set,Q,e,x,tp,o,C,e2,w,z,B.1,B.2,b1,b2,b3,b4,l,K,show(aj (M.aP q (M.call i c).2 r))<M.size by omega]
       (repeat' apply And.intro)<;>try omega
       exact a8 (r+1,pb g i (M.aP q (M.call i c).2 r),ae) aA (by simp[pb]) (fin ae (by simp[K])) aR
      |false=>
       simp[-aK,-List.map_set,Q,e,x,tp,o,C,e2,w,z,B.1,B.2,b1,b2,b3,b4,l,K,show(aj (M.aP q (M.call i c).2 r))<M.size by omega]
       (repeat' apply And.intro)<;>try omega
       exact a8 (r+1,pb g i (M.aP q (M.call i c).2 r),ad) aA (by simp[pb]) (fin ad (by simp[K])) aR
    .have out:(0<=q+1/\q+1<=(M.size:Int))/\rS M R m g A/\(∀a b,rel S a b->rel g a b)/\∀O, 0<=O ->O < q+1->∀y, 0<=y ->y < M.aM->rel R (M.call i c).1 O ->rel g i (M.aP O (M.call i c).2 y):=by
      refine⟨ax,X,λa b h=>l2 a b (k2 a b h),iY ?_ λO a b y H Y h=>l2 _ _ (k3 O a b y H Y h)⟩
      intro y H Y d;refine l3 y H ?_ d;have:¬r<M.aM:=λhh=>F ⟨hh,d.2.2.2.2⟩;omega
     by_cases e:r<M.aM
     .have x:ix (ix R (M.call i c).1) q=ae:=by
       cases K:ix (ix R (M.call i c).1) q with
       |false=>rfl
       |true=>exact absurd ⟨e,K⟩ F
      simp[-aK,Q,e,x]
      (repeat' apply And.intro)<;>try omega
      exact a8 (q+1,g,A) aA rfl out aR
     .simp[-aK,Q,e]
      (repeat' apply And.intro)<;>try omega
      exact a8 (q+1,g,A) aA rfl out aR
   .simp[-aK,show ¬q<(ah (ix R (M.call i c).1):Int)by omega]
    (repeat' apply And.intro)<;>try omega
    refine a8 (c+1,m3,U) aA rfl ⟨⟨aR,aR⟩,k1,λs s0 s1 u B=>k2 _ _ (g2 s s0 s1 u B),?_⟩ aR
    exact iY (λq r D W d=>k3 q d.2.2.1 (by have:=d.2.2.2.1;omega) r D W d) λc' c0' Fc q r D W d=>k2 _ _ (g3 c' c0' Fc q r D W d)
  .simp[-aK,j]
   refine⟨ax,?_⟩
   refine a8 (i+1,S,T) aA rfl ⟨⟨aR,aR⟩,g1,?_⟩ aR
   refine iY ?_ g2;rintro u ⟨c', p,r,yy, Z, hp,rfl⟩;exact g3 c' yy.1 ax p r Z.1 Z.2 hp
 .simp[z]
  exact⟨ch,m1,rfl,rfl,h1,λs u s0 s1 hw=>h2 s s0 ax u hw⟩
def Un:ah (gu box N m rest)=2+ah m+ah rest:=by simp[gu];omega
variable{B:aO}
def Uo:gu box N m rest ++ [B]=gu box N m (rest ++ [B]):=by simp[gu]
def Fe{α:Type}{f g:α->AV}{v:AV->Option AV}:∀{xs:List α},(∀x∈xs,v (f x)=aa (g x))->cu v (xs.map f)=aa (xs.map g)
 | [],_=>rfl
 |x::xs,h=>by
  have e:=Fe (f:=f) (g:=g) (v:=v) (xs:=xs) λy a=>h y gf
  simp only[da,cu,h x aA,e]
def amG{f g:α->AV}{b n:Nat}{xs:List α}(h:aQ σ b=aa ⟨ab,xs.map f,st⟩) (a:st.gx=ad) (d:n=ah xs) (e:∀x∈xs,view σ fr k (f x)=aa (g x)) :
  view σ fr (k+1) (.sl b n 0 n)=aa (.aX ae (xs.map g)):=by
 subst d;have i:upto σ b (ah xs)=aa ⟨ab,xs.map f,st⟩:=by
  unfold upto;rw[h];cases st<;>simp at a ⊢
 unfold view;simp only[i,ba,db,mG,gQ,Nat.mul_one,bG,dM];rw[Lv aA,Fe e]
def amH:(af (ah m)).map (λi=>bL (ix m (i:Nat)))=m.map bL:=by
 apply gF aA
 intro i a b;simp at a;simp only[gq,jn,bt a]
theorem amI(h:Sq N m):view (gu box N m rest) fr vd (.sl 1 N 0 N)=aa (.aX ae (m.map bL)):=by
 obtain⟨a,b⟩:=h;subst a;rw[<-amH];refine amG (k:=11) (f:=λi=>AV.sl (2+i) (ah m) 0 (ah m)) (g:=λi=>bL (ix m (i:Nat))) (xs:=af (ah m)) (st:=.live) (Uh rfl) aA aA λi d=>?_
 simp at d;have e:=Ly (box:=box) (N:=ah m) (rest:=rest) (m:=m) (s:=(i:Int)) ax ax
 rw[jT]at e;exact Lw (k:=10) (f:=AV.bool) e aA (b _ (bh ax ax)).symm λ_=>rfl
def amJ(h:ah m<N):aV (gu box N m [Fb r]) 1 ⟨ab,(refs (ah m) N++ag (N-ah m) AV.aJ).set (ah m) (.sl (2+ah m) N 0 N),.live⟩=gu box N (m ++ [r]) []:=by
 rw[qO];unfold gu;simp only[sQ,List.set_cons_zero,kk,da,List.map_nil,List.append_nil,bM,cT,eX,gQ]
 congr 2
 rw[qu,aC aA,show N-ah m=(N-(ah m+1))+1 by omega,sJ]
 rw[show refs (ah m+1) N=refs (ah m) N ++ [AV.sl (2+ah m) N 0 N]by simp only[refs,kL,kk,da,List.map_nil],jg]
 simp
def amK(h:ah m<N):aV (gu box N m [Fb r]) 1 ⟨ab,refs (ah m) N++(ag (N-ah m) AV.aJ).set 0 (.sl (2+ah m) N 0 N),.live⟩=gu box N (m ++ [r]) []:=by
 have:=amJ (box:=box) (r:=r) h
 rwa [qu,aC aA,show (ah m)-ah (refs (ah m) N)=0 by simp]at this
def amL{j:Nat}{K:AV->Prop}{t:Tk K}(a:0<=s) (b:s<k):pT (refs k N++ag j AV.aJ) (0+aj s*1) ab K t=K (.sl (2+aj s) N 0 N):=by
 unfold pT part;rw[show 0+aj s*1=aj s by omega,qJ,dq aT,gP,wj ax]
 rfl
def Up{cs:ao}{o:Nat}{x:AV}{K:ao->Prop}{t:Tk K}:pU cs o [x] K t=(o<ah cs/\K (cs.set o x)):=by
 have e:=uL (f:=id) (xs:=cs) (o:=o) (y:=x) (K:=K) (t:=t);simpa using e
variable{gar:aq}
def amM:aQ (gu box N m (gar ++ [B])) (2+ah m+ah gar)=aa B:=by
 rw[tx,gu,show 2+ah m+ah gar=(ah m+ah gar)+1+1 by omega,List.getElem?_cons_succ,List.getElem?_cons_succ,<-List.append_assoc,dW aA]
 simp
def amN{B B' : aO}:aV (gu box N m (gar ++ [B])) (2+ah m+ah gar) B' = gu box N m (gar ++ [B']):=by
 rw[qO,gu,gu,show 2+ah m+ah gar=(ah m+ah gar)+1+1 by omega,sQ,sQ,<-List.append_assoc,<-List.append_assoc,qu,aC aA]
 simp
variable{R:List (List Bool)}
def amO(h:ah R<N):(R.map bL++ag (N-ah R) AV.aJ).set (ah R) (bL r)=(R ++ [r]).map bL++ag (N-(ah R+1)) AV.aJ:=by
 rw[qu,aC aA,show N-ah R=(N-(ah R+1))+1 by omega,sJ]
 simp
def amP(h:ah R<N):R.map bL++(ag (N-ah R) AV.aJ).set 0 (bL r)=(R ++ [r]).map bL++ag (N-(ah R+(0+1))) AV.aJ:=by
 rw[<-amO h,qu,aC aA];simp
def amQ (M:eZ) (I:M.Ok) (t:Nat) (v:AV) (hv:GU t v M) (n:aS) (hc:n.ay=M.ay) (hi:n.aG=M.aG) (d:n.aM=M.aM) :
  LX L ET [.iface t v,n.av] [] (λv τ=>∃R:List (List Bool),cK τ ae v=aa (.aX ae (R.map bL))/\Sq M.size R/\∀s u,0<=s->s<(M.size:Int)->0<=u->u<(M.size:Int)->(ix (ix R s) u=ad↔gA M s u)):=by
 obtain⟨fz,tz,pz⟩:=hv.size;obtain⟨fi,ti,pi⟩:=hv.aH;have sf:=I.size;have hMi:=I.aG;have w:=hv.loc;have J:=hv.wk;refine akV rfl ?_;simp[-List.map_replicate,tz,w,J,pz];refine⟨ax,?_⟩
 refine bB (λp:Int×List (List Bool)=>[(3,.int p.1)]) (λp=>gu ⟨aa 10,[.int n.ay,.int n.aG,.int n.aM,.int n.aL,.int n.aF,bL n.az,bU n.call,bU n.push,bU n.aH,dw n.aP],.live⟩ M.size p.2 [])
  (λp=>(0<=p.1/\p.1<=(M.size:Int))/\(ah p.2:Int)=p.1/\(∀r∈p.2,ah r=M.size)/\∀s u,0<=s->s<p.1->0<=u->u<(M.size:Int)->(ix (ix p.2 s) u=ad↔∃i,0<=i/\i<M.aG/\u=M.aH s i))
  (λp=>aj (M.size-p.1)) (0,[]) (by simp[fj,gu]) ⟨aA,aA,aA,λs u l A=>by simp at A;omega⟩ ?_
 rintro⟨s,m⟩ ⟨⟨l,A⟩,h1,h2,h3⟩;dsimp only at l A h1 h2 h3 ⊢
 by_cases hs:s<(M.size:Int)
 .have o:aj s=ah m:=by omega
  have S:ah m<M.size:=ax
  have b1:=amK (box:=⟨aa 10,[.int n.ay,.int n.aG,.int n.aM,.int n.aL,.int n.aF,bL n.az,bU n.call,bU n.push,bU n.aH,dw n.aP],.live⟩) (N:=M.size) (m:=m) (r:=ag M.size ae) S;have Z:∀m' rest,aQ (gu ⟨aa 10,[.int n.ay,.int n.aG,.int n.aM,.int n.aL,.int n.aF,bL n.az,bU n.call,bU n.push,bU n.aH,dw n.aP],.live⟩ M.size m' rest) 0=aa ⟨aa 10,[.int n.ay,.int n.aG,.int n.aM,.int n.aL,.int n.aF,bL n.az,bU n.call,bU n.push,bU n.aH,dw n.aP],.live⟩:=λm' rest=>Ui;simp[-aK,-List.map_replicate,-List.map_set,-List.map_append,hs,l,tz,w,J,pz,Uo,Un,Lz,-El,↓Up,o,b1,Z]
  (repeat' apply And.intro)<;>try omega
  refine bB (λp:Int×List Bool=>[(7,.int p.1)]) (λp=>gu ⟨aa 10,[.int n.ay,.int n.aG,.int n.aM,.int n.aL,.int n.aF,bL n.az,bU n.call,bU n.push,bU n.aH,dw n.aP],.live⟩ M.size (m ++ [p.2]) [])
   (λp=>(0<=p.1/\p.1<=M.aG)/\ah p.2=M.size/\∀u,0<=u->u<(M.size:Int)->(ix p.2 u=ad↔∃i,0<=i/\i<p.1/\u=M.aH s i))
   (λp=>aj (M.aG-p.1)) (0,ag M.size ae) bS ⟨aT,aA,λu C H=>by rw[Lx C ax];simp;intros;omega⟩ ?_
  rintro⟨i,row⟩ ⟨⟨y,i1⟩,g1,T⟩;dsimp only at y i1 g1 T ⊢
  by_cases z:i<M.aG
  .have hu:=I.aH s i l hs y z
   have e1:=pi s i l hs y z;have p1:=λ(K:AV->Prop) (t:Tk K)=>amL (N:=M.size) (k:=ah m+1) (j:=M.size-(ah m+1)) (s:=s) (K:=K) (t:=t) l ax
   have b2:=Ly (box:=⟨aa 10,[.int n.ay,.int n.aG,.int n.aM,.int n.aL,.int n.aF,bL n.az,bU n.call,bU n.push,bU n.aH,dw n.aP],.live⟩) (N:=M.size) (rest:=[]) (m:=m ++ [row]) l aT
   have b4:=λr=>Ug (box:=⟨aa 10,[.int n.ay,.int n.aG,.int n.aM,.int n.aL,.int n.aF,bL n.az,bU n.call,bU n.push,bU n.aH,dw n.aP],.live⟩) (N:=M.size) (rest:=[]) (m:=m ++ [row]) (r:=r) l aT
   have E:ix (m ++ [row]) s=row:=by
    unfold ix;rw[o,fI,dW (bG _)];simp
   have ji:∀r,(m ++ [row]).set (aj s) r=m ++ [r]:=λr=>by rw[o,qu,aC ax];simp
   rw[E]at b2;simp[-aK,-List.map_replicate,-List.map_set,-List.map_append,show i<n.aG by omega,ti,w,J,e1,Z,b2,b4,Lz,-Q0,↓p1,l,hs,hu.1,hu.2,ji,g1]
   (repeat' apply And.intro)<;>try omega
   refine a8 (i+1,row.set (aj (M.aH s i)) ad) aA rfl ⟨⟨aR,aR⟩,by simp[g1],λu C H=>?_⟩ aR
   dsimp only;rw[E7 C ax]
   by_cases e:u=aj (M.aH s i)
   .rw[aD e]
    simp only[true_iff];exact⟨i,y,ax,ax⟩
   .rw[aC e,T u C H]
    constructor
    .rintro⟨j,j0,j1,rfl⟩;exact⟨j,j0,ax,rfl⟩
    .rintro⟨j,j0,j1,rfl⟩
     refine⟨j,j0,?_,rfl⟩
     by_cases ej:j=i
     .subst ej;omega
     .omega
  .simp[-aK,show ¬i<n.aG by omega]
   refine⟨ax,?_⟩
   refine a8 (s+1,m ++ [row]) aA rfl ⟨⟨aR,aR⟩,by dsimp only;simp;omega,?_,?_⟩ aR
   .intro r d
    rcases dI.1 d with d|d
    .exact h2 r d
    .simp at d;subst d;exact g1
   .dsimp only
    intro O u F Al C H
    by_cases e:O = s
    .subst e
     have E:ix (m ++ [row]) O = row:=by
      unfold ix;rw[o,fI,dW (bG _)];simp
     rw[E,T u C H,show i=M.aG by omega]
    .rw[E9 F ax]
     exact h3 O u F ax C H
 .have hl:ah m=M.size:=by omega
  have ZD:Sq M.size m:=⟨hl,h2⟩;have hsm:s=(M.size:Int):=ax
  simp[-aK,hs];have jl:∀s u,rel m s u->∃i,0<=i/\i<M.aG/\u=M.aH s i:=λO u d=>(h3 O u d.1 (by have:=d.2.1;omega) d.2.2.1 (by have:=d.2.2.2.1;omega)).1 d.2.2.2.2
  refine bB (λp:List (List Bool)×aq×AV×AV×AV=>[(3,p.2.2.1),(4,p.2.2.2.1),(10,p.2.2.2.2)]) (λp=>gu ⟨aa 10,[.int n.ay,.int n.aG,.int n.aM,.int n.aL,.int n.aF,bL n.az,bU n.call,bU n.push,bU n.aH,dw n.aP],.live⟩ M.size p.1 p.2.1)
   (λp=>Sq M.size p.1/\(∀a b,rel m a b->rel p.1 a b)/\∀a b,0<=a->a<(M.size:Int)->rel p.1 a b->gA M a b)
   (λp=>cf p.1) (m,[],.int s,.int M.size,.aW) bS ⟨ZD,λ_ _ h=>h,λa b D Q d=>?_⟩ ?_
  .obtain⟨i,y,i1,rfl⟩:=jl a b d
   exact .bp a i _ y i1 (.refl _)
  rintro⟨U,gar,x3,x4,x10⟩ ⟨x,k2,k3⟩;dsimp only at x k2 k3 ⊢;simp[-aK,-List.map_replicate,tz,w,J,pz,Uo,Un,x.1];refine⟨ax,?_⟩
  have G:∀a b,0<=a->a<(M.size:Int)->jq (rel U) a b->gA M a b/\(0<=b/\b<(M.size:Int)):=by
   intro a b D Q h
   induction h with
   |refl=>exact⟨.refl a,D,Q⟩
   |tail t u _ h2 ih=>
    have:=k3 t u ih.2.1 ih.2.2 h2;exact⟨ih.1.trans this,this.range I ih.2⟩
  refine bB (λp:Int×List (List Bool)=>[(11,.int p.1)]) (λp=>gu ⟨aa 10,[.int n.ay,.int n.aG,.int n.aM,.int n.aL,.int n.aF,bL n.az,bU n.call,bU n.push,bU n.aH,dw n.aP],.live⟩ M.size U (gar ++ [⟨ab,p.2.map bL++ag (M.size-ah p.2) .aJ,.live⟩]))
   (λp=>(0<=p.1/\p.1<=(M.size:Int))/\(ah p.2:Int)=p.1/\(∀r∈p.2,ah r=M.size)/\∀s u,0<=s->s<p.1->0<=u->u<(M.size:Int)->(ix (ix p.2 s) u=ad↔jq (rel U) s u))
   (λp=>aj (M.size-p.1)) (0,[]) bS ⟨aA,aA,aA,λs u l A=>by simp at A;omega⟩ ?_
  rintro⟨i,R⟩ ⟨⟨y,i1⟩,g1,T,g3⟩;dsimp only at y i1 g1 T g3 ⊢;have V:∀m' B,ah m'=M.size->aQ (gu ⟨aa 10,[.int n.ay,.int n.aG,.int n.aM,.int n.aL,.int n.aF,bL n.az,bU n.call,bU n.push,bU n.aH,dw n.aP],.live⟩ M.size m' (gar ++ [B])) (2+M.size+ah gar)=aa B:=λm' B h=>by
   rw[<-h];exact amM
  by_cases z:i<(M.size:Int)
  .obtain⟨vv,dC, e1,row,e2,e3,e4⟩:=dt (amA U i (by rw[x.1];omega) (by rw[x.1];exact x.2) ⟨y,by rw[x.1];exact z⟩)
   have hvm:=amI (fr:=ae) (box:=⟨aa 10,[.int n.ay,.int n.aG,.int n.aM,.int n.aL,.int n.aF,bL n.az,bU n.call,bU n.push,bU n.aH,dw n.aP],.live⟩) (rest:=gar ++ [⟨ab,R.map bL++ag (M.size-ah R) .aJ,.live⟩]) x;have o:aj i=ah R:=ax
   have S:ah R<M.size:=ax
   have hfn:=amP (r:=row) S;have hsb:=λB=>amN (box:=⟨aa 10,[.int n.ay,.int n.aG,.int n.aM,.int n.aL,.int n.aF,bL n.az,bU n.call,bU n.push,bU n.aH,dw n.aP],.live⟩) (N:=M.size) (m:=U) (gar:=gar) (B:=⟨ab,R.map bL++ag (M.size-ah R) .aJ,.live⟩) (B' :=B);rw[x.1]at hsb;simp[-aK,-List.map_replicate,-List.map_set,-List.map_append,z,y,hvm,e1,e2,V,x.1,-El,↓Up,o,hsb]
   (repeat' apply And.intro)<;>try omega
   refine a8 (i+1,R ++ [row]) aA (by simp only[hfn,List.length_append,List.length_cons,List.length_nil]) ⟨⟨aR,aR⟩,by dsimp only;simp;omega,?_,?_⟩ aR
   .intro r d
    rcases dI.1 d with d|d
    .exact T r d
    .simp at d;subst d;rw[e3,x.1]
   .dsimp only
    intro O u F Al C H
    by_cases e:O = i
    .subst e
     have E:ix (R ++ [row]) O = row:=by
      unfold ix;rw[o,fI,dW (bG _)];simp
     rw[E,e4 u C (by rw[x.1];exact H)]
    .rw[E9 F ax]
     exact g3 O u F ax C H
  .have W:ah R=M.size:=by omega
   have hRs:Sq M.size R:=⟨W,T⟩;have hRr:∀a b,rel R a b↔(0<=a/\a<(M.size:Int))/\jq (rel U) a b:=λa b=>by
    constructor
    .rintro⟨D,Q,Z,b1,hx⟩
     exact⟨⟨D,ax⟩,(g3 a b D ax Z ax).1 hx⟩
    .rintro⟨⟨D,Q⟩,hx⟩
     have:=(G a b D Q hx).2;exact⟨D,ax,this.1,ax,(g3 a b D ax this.1 this.2).2 hx⟩
   have X:R.map bL++ag (M.size-ah R) AV.aJ=R.map bL:=by rw[W];simp
   rw[X];obtain⟨vv,τ,e1,ch,m', rfl,rfl,hg,hw⟩:=dt (amE M I t v hv n hc d ⟨aa 10,[.int n.ay,.int n.aG,.int n.aM,.int n.aL,.int n.aF,bL n.az,bU n.call,bU n.push,bU n.aH,dw n.aP],.live⟩ U R (gar ++ [⟨ab,R.map bL,.live⟩]) (2+M.size+ah gar) x hRs λm' h=>V m' _ (by rw[h,x.1]))
   have Z:∀m' rest,aQ (gu ⟨aa 10,[.int n.ay,.int n.aG,.int n.aM,.int n.aL,.int n.aF,bL n.az,bU n.call,bU n.push,bU n.aH,dw n.aP],.live⟩ M.size m' rest) 0=aa ⟨aa 10,[.int n.ay,.int n.aG,.int n.aM,.int n.aL,.int n.aF,bL n.az,bU n.call,bU n.push,bU n.aH,dw n.aP],.live⟩:=λm' rest=>Ui;simp[-aK,z,Z,e1];refine⟨λY=>?_,λY=>?_⟩
   .subst Y
    refine a8 (m', gar ++ [⟨ab,R.map bL,.live⟩],_,_,_) rfl rfl ⟨hg.sq,λa b h=>hg.mono _ _ (k2 a b h),λa b D Q h=>?_⟩ (hg.yes rfl);rcases hg.sound a b h with h|⟨c,p,r,P, xY, hp,rfl⟩
    .exact k3 a b D Q h
    .have q:=I.call a c D Q P.1 P.2
     exact .call a c p r _ P.1 P.2 xY.1 xY.2 (G _ _ q.1 q.2 ((hRr _ _).1 hp).2).1 (.refl _)
   .subst Y
    have rE :=hg.no rfl;subst rE;have GV:view (gu ⟨aa 10,[.int n.ay,.int n.aG,.int n.aM,.int n.aL,.int n.aF,bL n.az,bU n.call,bU n.push,bU n.aH,dw n.aP],.live⟩ M.size m' (gar ++ [⟨ab,R.map bL,.live⟩])) ae vd (.sl (2+M.size+ah gar) M.size 0 M.size)=aa (.aX ae (R.map bL)):=Lw (k:=11) (f:=bL) (g:=bL) (xs:=R) (st:=.live) (V m' _ x.1) aA W.symm λ_=>rfl
    refine⟨R,GV,hRs,λs u l A C H=>?_⟩;rw[g3 s u l ax C H]
    refine amy I k3 (λs i l A y i1=>?_) (λs c p r l A c0 c1 r0 r1 o=>?_) ⟨l,A⟩
    .have q:=I.aH s i l A y i1
     exact k2 _ _ ⟨l,ax,q.1,ax,(h3 s _ l ax q.1 q.2).2 ⟨i,y,i1,rfl⟩⟩
    .have q:=I.call s c l A c0 c1
     exact hw s _ l A ⟨c,p,r,⟨c0,c1⟩,⟨r0,r1⟩,(hRr _ _).2 ⟨q,o⟩,rfl⟩
structure Gw (M:eZ) (m m' : List (List Bool)) (ch:Bool):Prop where
 sq:Sq M.size m'
 mono:∀s t,rel m s t->rel m' s t
 sound:∀s t,rel m' s t->gA M s t
 no:ch=ae->m' = m
 yes:ch=ad->cf m' < cf m
noncomputable def qP (M:eZ):List (List Bool):=by
 classical
 exact(af M.size).map λs=>(af M.size).map λt=>decide (gA M (s:Nat) (t:Nat))
def Uq:Sq M.size (qP M):=by
 constructor
 .simp[qP]
 .intro r a
  simp only[qP,cJ]at a;obtain⟨s,_,rfl⟩:=a;simp
def LD(b:0<=s) (d:s<(M.size:Int)) (e:0<=t) (g:t<(M.size:Int)):ix (ix (qP M) s) t=ad↔gA M s t:=by
 have a:ix (qP M) s=(af M.size).map λu=>by classical exact decide (gA M (aj s:Nat) (u:Nat)):=by
  unfold ix qP;rw[fI,gP,wj ax]
  rfl
 rw[a];unfold ix;rw[fI,gP,wj ax]
 simp[show((aj s:Nat):Int)=s by omega,show((aj t:Nat):Int)=t by omega]
def amR{m: List (List Bool)}(h:Sq N m) (b : Sq N m') (e:∀s t,0<=s->s<(N:Int)->0<=t->t<(N:Int)->(ix (ix m s) t=ad↔ix (ix m' s) t=ad)):m=m' :=by
 refine wQ (by rw[h.1,b.1]) λi a i1=>?_
 have g:=h.1;have:=h.row a ax
 have:=b.row a ax
 refine wQ ax λj d l=>?_
 rw[nm];exact e i j a ax d ax
def amS(h:Sq M.size R) (g:∀s u,0<=s->s<(M.size:Int)->0<=u->u<(M.size:Int)->(ix (ix R s) u=ad↔gA M s u)):R=qP M:=
 amR h Uq λs t a b d e=>by rw[g s t a b d e,LD a b d e]
def amT (M:eZ) (a:M.Ok) (t:Nat) (v:AV) (b:GU t v M) (n:aS) (d:n.ay=M.ay) (e:n.aG=M.aG) (g:n.aM=M.aM):PC ET [.iface t v,n.av]=aa (.aX ae ((qP M).map bL)):=by
 refine cB ?_;obtain⟨o, h, i,R,j,l,m⟩:=dt (amQ M a t v b n d e g);refine Bj i ?_;rw[j,amS l m];simp
inductive Wd (M:eZ):Int->Int->ak->Prop
 |nil (s:Int):Wd M s s []
 |bp (s i t:Int) (w:ak):0<=i->i<M.aG->Wd M (M.aH s i) t w->Wd M s t ((M.ay+i)::w)
 |call (s c p r t:Int) (u v:ak):0<=c->c<M.ay->0<=r->r<M.aM->Wd M (M.call s c).1 p u->Wd M (M.aP p (M.call s c).2 r) t v->Wd M s t (c::(u++(M.ay+M.aG+r)::v))
variable{v:ak}
def Wd.app{u:ak}(h:Wd M a b u) (k:Wd M b c v):Wd M a c (u++v):=by
 induction h with
 |nil s=>exact k
 |bp s i t w h0 h1 _ ih=>exact .bp s i c _ h0 h1 (ih k)
 |call s x p r t u v h0 h1 h2 h3 h4 _ _ ih=>
  have:=Wd.call s x p r c u _ h0 h1 h2 h3 h4 (ih k);simpa using this
def Wd.conn{u:ak}(h:Wd M a b u):gA M a b:=by
 induction h with
 |nil s=>exact .refl s
 |bp s i t w h0 h1 _ ih=>exact .bp s i t h0 h1 ih
 |call s x p r t u v h0 h1 h2 h3 _ _ qG rL=>exact .call s x p r t h0 h1 h2 h3 qG rL
def gA.wd(h:gA M a b):∃u,Wd M a b u:=by
 induction h with
 |refl s=>exact⟨[],.nil s⟩
 |bp s i t h0 h1 _ ih=>obtain⟨u,hu⟩:=ih;exact⟨_,.bp s i t u h0 h1 hu⟩
 |call s x p r t h0 h1 h2 h3 _ _ qG rL=>
  obtain⟨u,hu⟩:=qG;obtain⟨v,hv⟩:=rL;exact⟨_,.call s x p r t u v h0 h1 h2 h3 hu hv⟩
def eZ.step (M:eZ) (p:Int×ak) (x:Int):Int×ak:=
 if x<M.ay then((M.call p.1 x).1,(M.call p.1 x).2::p.2)
 else if x<M.ay+M.aG then(M.aH p.1 (x-M.ay),p.2)
 else(M.aP p.1 (hd p.2) (x-M.ay-M.aG),p.2.tail)
def mt (a b:Int):Nat->ak->Bool
 |d,[]=>d==0
 |d,x::w=>if x<a then mt a b (d+1) w else if x<a+b then mt a b d w else match d with
  |0=>ae
  |d+1=>mt a b d w
inductive Fr (M:eZ) (s:Int):ak->ak->Int->Prop
 |base (w:ak) (q:Int):Wd M s q w->Fr M s w [] q
 |open_ (w:ak) (st:ak) (p c q:Int) (v:ak):Fr M s w st p->0<=c->c<M.ay->Wd M (M.call p c).1 q v->Fr M s (w++c::v) ((M.call p c).2::st) q
def Fr.ext{s q q' : Int}{st:ak}(h:Fr M s w st q) (k:Wd M q q' v):Fr M s (w++v) st q' :=by
 cases h with
 |base _ _ h=>exact .base _ _ (h.app k)
 |open_ w st p c _ u h c0 c1 hu=>
  have:=Fr.open_ w st p c q' _ h c0 c1 (hu.app k);simpa using this
def Fr.run{M:eZ}{s:Int}{n:Int}(hn:n=M.ay+M.aG+M.aM):∀{u w st:ak}{q:Int},Fr M s w st q->(∀x∈u,0<=x/\x<n)->mt M.ay M.aG (ah st) u=ad->Wd M s (u.foldl M.step (q,st)).1 (w++u)/\(u.foldl M.step (q,st)).2=[]
 | [],w,st,q,h,_,hm=>by
  have fT:st=[]:=by simpa[mt]using hm
  subst fT;cases h with
  |base _ _ h=>exact⟨du,rfl⟩
 |x::u,w,st,q,h,hx,hm=>by
  have x0:=hx x aA
  have lh : ∀y∈u,0<=y/\y<n:=λy hy=>hx y (by simp[hy])
  simp only[mt]at hm;simp only[my,eZ.step]
  by_cases c1:x<M.ay
  .rw[aD c1]at hm ⊢
   have:=Fr.run hn (Fr.open_ w st q x _ [] h x0.1 c1 (.nil _)) lh hm;simpa using this
  .rw[aC c1]at hm ⊢
   by_cases c2:x<M.ay+M.aG
   .rw[aD c2]at hm ⊢
    have k:=Wd.bp (M:=M) q (x-M.ay) _ [] ax ax (.nil _)
    rw[show M.ay+(x-M.ay)=x by omega]at k
    have:=Fr.run hn (h.ext k) lh hm;simpa using this
   .rw[aC c2]at hm ⊢
    cases h with
    |base _ _ h=>simp at hm
    |open_ w st p c _ v h c0 c1 hv=>
     simp only[cT]at hm;have k:=Wd.call (M:=M) p c q (x-M.ay-M.aG) _ v [] c0 c1 ax ax hv (.nil _)
     rw[show M.ay+M.aG+(x-M.ay-M.aG)=x by omega]at k
     have:=Fr.run hn (h.ext k) lh hm;simpa[hd]using this
def Wd.run(hM:0<=M.ay/\0<=M.aG/\0<=M.aM)(h:Wd M s t w):(∀x∈w,0<=x/\x<M.ay+M.aG+M.aM)/\(∀d rest,mt M.ay M.aG d (w++rest)=mt M.ay M.aG d rest)/\∀st rest,(w++rest).foldl M.step (s,st)=rest.foldl M.step (t,st):=by
 induction h with
 |nil s=>exact⟨aA,λ_ _=>rfl,λ_ _=>rfl⟩
 |bp s i t w h0 h1 _ ih=>
  obtain⟨a,b,c⟩:=ih;refine⟨λx hx=>?_,λd rest=>?_,λst rest=>?_⟩
  .rcases cC.1 hx with rfl|hx
   .omega
   .exact a x hx
  .simp only[kK,mt]
   rw[aC ax,aD ax,b]
  .simp only[kK,my,eZ.step]
   rw[aC ax,aD ax,show M.ay+i-M.ay=i by omega,c]
 |call s x p r t u v h0 h1 h2 h3 _ _ qG rL=>
  obtain⟨a,b,c⟩:=qG;obtain⟨a', b', c'⟩:=rL;refine⟨λy hy=>?_,λd rest=>?_,λst rest=>?_⟩
  .simp only[cC,dI]at hy
   rcases hy with rfl|hy|rfl|hy
   .omega
   .exact a y hy
   .omega
   .exact a' y hy
  .simp only[kK,jg,mt]
   rw[aD h1,b];simp only[mt];rw[aC ax,aC ax,b']
  .simp only[kK,jg,my,eZ.step]
   rw[aD h1,c];simp only[my,eZ.step];rw[aC ax,aC ax,show M.ay+M.aG+r-M.ay-M.aG=r by omega]
   exact c' st rest
def rT(d:0<=M.ay/\0<=M.aG/\0<=M.aM):Wd M s t w↔(∀x∈w,0<=x/\x<M.ay+M.aG+M.aM)/\mt M.ay M.aG 0 w=ad/\(w.foldl M.step (s,[])).1=t:=by
 constructor
 .intro h
  obtain⟨a,b,c⟩:=h.run d;refine⟨a,?_,?_⟩
  .have:=b 0 []
   simpa[mt]using this
  .have:=c [] []
   simp at this;rw[this]
 .rintro⟨a,b,rfl⟩
  have:=Fr.run (M:=M) rfl (u:=w) (.base [] s (.nil s)) a b;simpa using this.1
def Ff{n:aS}:∀{w:ak}{d:Nat}{mx mn:Int},mn<=0->(mt n.ay n.aG d w=ad/\mn=0↔(w.foldl n.jo ((d:Int),mx,mn)).2.2=0/\(w.foldl n.jo ((d:Int),mx,mn)).1=0)
 | [],d,mx,mn,h=>by
  simp[mt];omega
 |x::w,d,mx,mn,h=>by
  simp only[mt,my,aS.jo,aS.zo]
  by_cases a:x<n.ay
  .rw[aD a,aD a,show min mn ((d:Int)+1)=mn by omega]
   have:=Ff (n:=n) (w:=w) (d:=d+1) (mx:=max mx ((d:Int)+1)) h;rw[show(((d+1:Nat)):Int)=(d:Int)+1 by omega]at this
   exact this
  .rw[aC a,aC a]
   by_cases b:x<n.ay+n.aG
   .rw[aD b,aC ax,show min mn (d:Int)=mn by omega]
    exact Ff (w:=w) (d:=d) h
   .rw[aC b,aD ax]
    cases d with
    |succ d=>
     rw[show((d+1:Nat):Int)-1=(d:Int)by omega,show min mn (d:Int)=mn by omega]
     exact Ff (w:=w) (d:=d) h
    |zero=>
     simp only[ff,false_and,false_iff,not_and];intro g;have:∀(w:ak) (p:Int×Int×Int),(w.foldl n.jo p).2.2<=p.2.2:=by
      intro w
      induction w with
      |nil=>intro p;exact Int.le_refl _
      |cons y w e=>
       intro p;have:=e (n.jo p y);simp only[my];simp only[aS.jo]at this ⊢;omega
     have:=this w (((0:Nat):Int)-1,max mx (((0:Nat):Int)-1),min mn (((0:Nat):Int)-1));simp only at this;omega
def LF:n.gu w=mt n.ay n.aG 0 w:=by
 rw[nm];have:=Ff (n:=n) (w:=w) (d:=0) (mx:=0) (mn:=0) (Int.le_refl 0);simp only[and_true]at this;rw[this];simp only[aS.gu,aS.kN,bd];exact⟨λh=>⟨of_decide_eq_true h.1,of_decide_eq_true h.2⟩,λh=>⟨qv h.1,qv h.2⟩⟩
def B4(a:n.Ok):Wd n.bZ s t w↔(∀x∈w,0<=x/\x<n.ay+n.aG+n.aM)/\n.gu w=ad/\(n.run s w).1=t:=by
 have b:=a.ay;have d:=a.aG;have e:=a.aM;rw[rT (M:=n.bZ) ⟨b.1,d.1,e.1⟩,LF]
 rfl
end Ab
