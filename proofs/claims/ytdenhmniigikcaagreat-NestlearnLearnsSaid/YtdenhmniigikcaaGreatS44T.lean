/- The laws of the chapter, as the interpreter finds them; and what it leans on. Condition: none. -/
import Derived.Test.YtdenhmniigikcaaGreatCan
import Derived.Test.YtdenhmniigikcaaGreatN43Word
import Derived.Test.YtdenhmniigikcaaGreatS44S
import Derived.Test.YtdenhmniigikcaaGreatInts
set_option linter.all false
set_option maxRecDepth 100000
set_option maxHeartbeats 4000000
open Option renaming some->aa
open Bool renaming true->ad,false->ae
open List renaming length->ah
open Int renaming toNat->aj
namespace Ab
open Go
abbrev CO:Ty:=.st [.int,.int,.int,.int,.int,.sl .bool,.sl (.sl .int),.sl (.sl .int),.sl (.sl .int),.sl (.sl (.sl .int))]
def F0{x:AV}(h:CO.has x):∃n:aS,x=n.av/\n.fits:=by
 obtain⟨xs,rfl,h⟩:=h;simp only[Ty.uN]at h;obtain⟨Q,R,rfl,d,S,T,rfl,e,U,V,rfl,g,W,X,rfl,i,Y,Z,rfl,j,x5,s5,rfl,o,x6,s6,rfl,p,x7,s7,rfl,q,x8,s8,rfl,r,x9,s9,rfl,s,rfl⟩:=h;obtain⟨u,rfl,w⟩:=lO d;obtain⟨y,rfl,z⟩:=lO e;obtain⟨A,rfl,B⟩:=lO g;obtain⟨C,rfl,D⟩:=lO i;obtain⟨E,rfl,F⟩:=lO j;obtain⟨G,rfl,H⟩:=Us o;obtain⟨I,rfl,J⟩:=tA p;obtain⟨K,rfl,L⟩:=tA q;obtain⟨M,rfl,N⟩:=tA r;obtain⟨O,rfl,b⟩:=Fh s;exact⟨⟨u,y,A,C,E,G,I,K,M,O⟩,rfl,⟨w,z,B,D,F,H,λl a=>(J.2 l a).1,λl a=>(L.2 l a).1,λl a=>(N.2 l a).1,λl a=>⟨(b.2 l a).1,λm P=>((b.2 l a).2 m P).1⟩⟩⟩
end Ab
namespace Ab
def aS.small (n:aS):Bool:=decide ((ah n.az:Int)<=5)&&decide (n.aL<=6)&&decide (n.ay<=6)&&decide (n.aG<=6)&&decide (n.aM<=6)&&decide (wr (wr (n.ay+n.aG)+n.aM)<=6)
def apf (n:aS) (h:n.fits):PC KI [n.av]=aa (.bool n.small):=by
 refine cB (ajP rfl ?_)
 by_cases a:(ah n.az:Int)<=5<;>by_cases b:n.aL<=6<;>by_cases d:n.ay<=6<;>by_cases e:n.aG<=6<;>by_cases g:n.aM<=6<;>simp[a,b,d,e,g,aS.small]
def aS.kz (n:aS):Bool:=decide ((ah n.az:Int)<=3)&&decide (n.aL<=4)&&n.small&&decide (wr (wr (n.ay+n.aG)+n.aM)<=5)
def apg (n:aS) (h:n.fits):PC KG [n.av]=aa (.bool n.kz):=by
 refine cB (ajJ rfl ?_);have a:=apf n h
 by_cases d:(ah n.az:Int)<=3<;>by_cases e:n.aL<=4<;>cases b:n.small<;>rw[b]at a<;>simp[d,e,b,a,aS.kz]
def aph (a b:List Bool) (p:(ah a:Int)<=1000000) (q:(ah b:Int)<=1000000):PC KL [bL a,bL b]=aa (.bool (decide (a=b))):=by
 refine cB (aj2 rfl ?_)
 by_cases d:ah a=ah b
 .simp[-aK,d]
  refine bB (λi:Int=>[(2,.int i)]) (λ_=>[]) (λi=>0<=i/\i<=ah b/\∀j,0<=j->j<i->ix a j=ix b j) (λi=>aj (ah b-i)) 0 rfl ⟨ax,ax,oQ⟩ λi ⟨m,i1,n⟩=>?_
  by_cases h:i<(ah b:Int)
  .by_cases g:ix a i=ix b i
   .simp[-aK,d,h,m,g]
    exact⟨ax,a8 (i+1) rfl rfl ⟨ax,ax,iY g n⟩ ax⟩
   .have:¬a=b:=λe=>g fk
    simp[-aK,d,h,m,g,this]
  .have:a=b:=wQ d λj o r=>n j o ax
   simp[-aK,d,h,this]
 .have:¬a=b:=λe=>d fk
  have l : ¬(ah a:Int)=(ah b:Int):=ax
  simp[-aK,d,l, this]
structure aS.ZZ (n:aS):Prop where
 acc:(ah n.az:Int)<=1000000
 call:(ah n.call:Int)<=1000000/\∀r∈n.call,(ah r:Int)<=1000000
 push:(ah n.push:Int)<=1000000/\∀r∈n.push,(ah r:Int)<=1000000
 aH:(ah n.aH:Int)<=1000000/\∀r∈n.aH,(ah r:Int)<=1000000
 aP:(ah n.aP:Int)<=1000000/\∀r∈n.aP,(ah r:Int)<=1000000/\∀m∈r,(ah m:Int)<=1000000
open Classical in
noncomputable def q8 (a b:aS):Bool:=decide (a=b)
variable{a b:aS}
def M0:q8 a b=ad↔a=b:=by simp[q8]
def api(h:¬a=b):q8 a b=ae:=by simp[q8,h]
def q9{d:Type}(f:aS->d) (h:¬f a=f b):q8 a b=ae:=api λe=>h fk
def aS.ext'(h1:a.ay=b.ay) (h2:a.aG=b.aG) (h3:a.aM=b.aM) (h4:a.aL=b.aL) (h5:a.aF=b.aF) (h6:a.az=b.az) (h7:a.call=b.call) (h8:a.push=b.push) (h9:a.aH=b.aH) (ZG:a.aP=b.aP):a=b:=by
 cases a;cases b;simp_all
def W7 (a b:aS) (ha:a.ZZ) (hb:b.ZZ):PC BJ [a.av,b.av]=aa (.bool (q8 a b)):=by
 refine cB (ajM rfl ?_)
 by_cases c1:a.ay=b.ay
 case neg=>simp[-aK,c1,q9 (λn=>n.ay) c1]
 by_cases c2:a.aG=b.aG
 case neg=>simp[-aK,c1,c2,q9 (λn=>n.aG) c2]
 by_cases c3:a.aM=b.aM
 case neg=>simp[-aK,c1,c2,c3,q9 (λn=>n.aM) c3]
 by_cases c4:a.aL=b.aL
 case neg=>simp[-aK,c1,c2,c3,c4,q9 (λn=>n.aL) c4]
 by_cases c5:a.aF=b.aF
 case neg=>simp[-aK,c1,c2,c3,c4,c5,q9 (λn=>n.aF) c5]
 by_cases c6:ah a.aP=ah b.aP
 case neg=>
  have c6' : ¬(ah a.aP:Int)=(ah b.aP:Int):=ax
  simp[-aK,c1,c2,c3,c4,c5,c6,c6', q9 (λn=>ah n.aP) c6]
 simp[-aK,c1,c2,c3,c4,c5,c6];refine bB (λi:Int=>[(4,.int i)]) (λ_=>[]) (λi=>0<=i/\i<=ah b.aP/\∀j,0<=j->j<i->ix a.aP j=ix b.aP j) (λi=>aj (ah b.aP-i)) 0 rfl ⟨ax,ax,oQ⟩ λi ⟨i0,i1,i2⟩=>?_
 have M1:(ah a.aP:Int)=(ah b.aP:Int):=ax
 by_cases hi:i<(ah b.aP:Int)
 .have h1:=ha.aP.2 _ (bh (l:=a.aP) i0 ax)
  have h2:=hb.aP.2 _ (bh i0 hi);have hL:=FZ (ix a.aP i) (ix b.aP i) h1.1 (by have:=h2.1;omega) h1.2 λr hr=>by have:=h2.2 r hr;omega
  by_cases he:ix a.aP i=ix b.aP i
  .rw[qv he]at hL
   simp[-aK,c6,M1,hi,i0,hL];have:=hb.aP.1;exact⟨ax,a8 (i+1) rfl rfl ⟨ax,ax,iY he i2⟩ ax⟩
  .rw[sP he]at hL
   simp[-aK,c6,M1,hi,i0,hL,q9 (λn=>ix n.aP i) he]
 .have c7:a.aP=b.aP:=wQ c6 λj j0 j1=>i2 j j0 ax
  have hA:=aph a.az b.az ha.acc hb.acc;have hC:=FZ a.call b.call ha.call.1 (by have:=hb.call.1;omega) ha.call.2 λr hr=>by have:=hb.call.2 r hr;omega
  have hP:=FZ a.push b.push ha.push.1 (by have:=hb.push.1;omega) ha.push.2 λr hr=>by have:=hb.push.2 r hr;omega
  have hI:=FZ a.aH b.aH ha.aH.1 (by have:=hb.aH.1;omega) ha.aH.2 λr hr=>by have:=hb.aH.2 r hr;omega
  by_cases d1:a.az=b.az
  case neg=>rw[sP d1]at hA;simp[-aK,M1,hi,hA,q9 (λn=>n.az) d1]
  rw[qv d1]at hA
  by_cases d2:a.call=b.call
  case neg=>rw[sP d2]at hC;simp[-aK,M1,hi,hA,hC,q9 (λn=>n.call) d2]
  rw[qv d2]at hC
  by_cases d3:a.push=b.push
  case neg=>rw[sP d3]at hP;simp[-aK,M1,hi,hA,hC,hP,q9 (λn=>n.push) d3]
  rw[qv d3]at hP
  by_cases d4:a.aH=b.aH
  case neg=>rw[sP d4]at hI;simp[-aK,M1,hi,hA,hC,hP,hI,q9 (λn=>n.aH) d4]
  rw[qv d4]at hI;have:q8 a b=ad:=M0.2 (aS.ext' c1 c2 c3 c4 c5 d1 d2 d3 d4 c7);simp[-aK,M1,hi,hA,hC,hP,hI,this]
structure aS.entry (n:aS):Prop where
 aF:n.aF=0
 aL:n.aL=max 1 ((ah n.az:Int)*n.ay)
 call:∀s c:Int,0<=s->s<(ah n.az:Int)->0<=c->c<n.ay->ix (ix n.call s) c=0
 push:∀s c:Int,0<=s->s<(ah n.az:Int)->0<=c->c<n.ay->ix (ix n.push s) c=s*n.ay+c
end Ab
