/- The laws of the chapter, as the interpreter finds them; and what it leans on. Condition: none. -/
import Derived.Test.YtdenhmniigikcaaGreatCan
import Derived.Test.YtdenhmniigikcaaGreatN43Word
import Derived.Test.YtdenhmniigikcaaGreatS44S
import Derived.Test.YtdenhmniigikcaaGreatInts
set_option linter.all false
set_option maxRecDepth 100000
set_option maxHeartbeats 4000000
namespace Ab
open Go
abbrev Az:Ty:=.st [.int,.int,.int,.int,.int,.sl .bool,.sl (.sl .int),.sl (.sl .int),.sl (.sl .int),.sl (.sl (.sl .int))]
def DW{x:AV}(h:Az.has x):∃n:ao,x=n.av/\n.fits:=by
 obtain⟨xs,rfl,h⟩:=h;simp only[Ty.tj]at h;obtain⟨Q,R,rfl,d,S,T,rfl,e,U,V,rfl,g,W,X,rfl,i,Y,Z,rfl,j,x5,s5,rfl,o,x6,s6,rfl,p,x7,s7,rfl,q,x8,s8,rfl,r,x9,s9,rfl,s,rfl⟩:=h;obtain⟨u,rfl,w⟩:=kO d;obtain⟨y,rfl,z⟩:=kO e;obtain⟨A,rfl,B⟩:=kO g;obtain⟨C,rfl,D⟩:=kO i;obtain⟨E,rfl,F⟩:=kO j;obtain⟨G,rfl,H⟩:=SY o;obtain⟨I,rfl,J⟩:=r6 p;obtain⟨K,rfl,L⟩:=r6 q;obtain⟨M,rfl,N⟩:=r6 r;obtain⟨O,rfl,b⟩:=C7 s;exact⟨⟨u,y,A,C,E,G,I,K,M,O⟩,rfl,⟨w,z,B,D,F,H,λl a=>(J.2 l a).1,λl a=>(L.2 l a).1,λl a=>(N.2 l a).1,λl a=>⟨(b.2 l a).1,λm P=>((b.2 l a).2 m P).1⟩⟩⟩
end Ab
namespace Ab
def ao.small (n:ao):Bool:=decide ((n.accept.length:Int)<=5)&&decide (n.stack<=6)&&decide (n.calls<=6)&&decide (n.ak<=6)&&decide (n.ah<=6)&&decide (wr (wr (n.calls+n.ak)+n.ah)<=6)
def aof (n:ao) (h:n.fits):PC Jn [n.av]=some (.bool n.small):=by
 refine bZ (aiT rfl ?_)
 by_cases a:(n.accept.length:Int)<=5<;>by_cases b:n.stack<=6<;>by_cases d:n.calls<=6<;>by_cases e:n.ak<=6<;>by_cases g:n.ah<=6<;>simp[a,b,d,e,g,ao.small]
def ao.nM (n:ao):Bool:=decide ((n.accept.length:Int)<=3)&&decide (n.stack<=4)&&n.small&&decide (wr (wr (n.calls+n.ak)+n.ah)<=5)
def aog (n:ao) (h:n.fits):PC Jk [n.av]=some (.bool n.nM):=by
 refine bZ (aiM rfl ?_);have a:=aof n h
 by_cases d:(n.accept.length:Int)<=3<;>by_cases e:n.stack<=4<;>cases b:n.small<;>rw[b]at a<;>simp[d,e,b,a,ao.nM]
def aoh (a b:List Bool) (p:(a.length:Int)<=1000000) (q:(b.length:Int)<=1000000):PC Jr [bL a,bL b]=some (.bool (decide (a=b))):=by
 refine bZ (ajc rfl ?_)
 by_cases d:a.length=b.length
 .simp[-aj,d]
  refine aK (λi:Int=>[(2,.int i)]) (λ_=>[]) (λi=>0<=i/\i<=b.length/\∀j,0<=j->j<i->ix a j=ix b j) (λi=>(b.length-i).toNat) 0 rfl ⟨aa,aa,r5⟩ λi ⟨m,i1,n⟩=>?_
  by_cases h:i<(b.length:Int)
  .by_cases g:ix a i=ix b i
   .simp[-aj,d,h,m,g]
    exact⟨aa,aD (i+1) rfl rfl ⟨aa,aa,lN g n⟩ aa⟩
   .have:¬a=b:=λe=>g eD
    simp[-aj,d,h,m,g,this]
  .have:a=b:=xc d λj o r=>n j o aa
   simp[-aj,d,h,this]
 .have:¬a=b:=λe=>d eD
  have l : ¬(a.length:Int)=(b.length:Int):=aa
  simp[-aj,d,l, this]
structure ao.Lt (n:ao):Prop where
 acc:(n.accept.length:Int)<=1000000
 call:(n.call.length:Int)<=1000000/\∀r∈n.call,(r.length:Int)<=1000000
 push:(n.push.length:Int)<=1000000/\∀r∈n.push,(r.length:Int)<=1000000
 inner:(n.inner.length:Int)<=1000000/\∀r∈n.inner,(r.length:Int)<=1000000
 pop:(n.pop.length:Int)<=1000000/\∀r∈n.pop,(r.length:Int)<=1000000/\∀m∈r,(m.length:Int)<=1000000
open Classical in
noncomputable def pN (a b:ao):Bool:=decide (a=b)
variable{a b:ao}
def Lu:pN a b=true↔a=b:=by simp[pN]
def aoi(h:¬a=b):pN a b=false:=by simp[pN,h]
def pO{d:Type}(f:ao->d) (h:¬f a=f b):pN a b=false:=aoi λe=>h eD
def ao.ext'(h1:a.calls=b.calls) (h2:a.ak=b.ak) (h3:a.ah=b.ah) (h4:a.stack=b.stack) (h5:a.start=b.start) (h6:a.accept=b.accept) (h7:a.call=b.call) (h8:a.push=b.push) (h9:a.inner=b.inner) (XJ:a.pop=b.pop):a=b:=by
 cases a;cases b;simp_all
def Vt (a b:ao) (ha:a.Lt) (hb:b.Lt):PC zC [a.av,b.av]=some (.bool (pN a b)):=by
 refine bZ (aiP rfl ?_)
 by_cases c1:a.calls=b.calls
 case neg=>simp[-aj,c1,pO (λn=>n.calls) c1]
 by_cases c2:a.ak=b.ak
 case neg=>simp[-aj,c1,c2,pO (λn=>n.ak) c2]
 by_cases c3:a.ah=b.ah
 case neg=>simp[-aj,c1,c2,c3,pO (λn=>n.ah) c3]
 by_cases c4:a.stack=b.stack
 case neg=>simp[-aj,c1,c2,c3,c4,pO (λn=>n.stack) c4]
 by_cases c5:a.start=b.start
 case neg=>simp[-aj,c1,c2,c3,c4,c5,pO (λn=>n.start) c5]
 by_cases c6:a.pop.length=b.pop.length
 case neg=>
  have c6' : ¬(a.pop.length:Int)=(b.pop.length:Int):=aa
  simp[-aj,c1,c2,c3,c4,c5,c6,c6', pO (λn=>n.pop.length) c6]
 simp[-aj,c1,c2,c3,c4,c5,c6];refine aK (λi:Int=>[(4,.int i)]) (λ_=>[]) (λi=>0<=i/\i<=b.pop.length/\∀j,0<=j->j<i->ix a.pop j=ix b.pop j) (λi=>(b.pop.length-i).toNat) 0 rfl ⟨aa,aa,r5⟩ λi ⟨i0,i1,i2⟩=>?_
 have Lv:(a.pop.length:Int)=(b.pop.length:Int):=aa
 by_cases hi:i<(b.pop.length:Int)
 .have h1:=ha.pop.2 _ (aJ (l:=a.pop) i0 aa)
  have h2:=hb.pop.2 _ (aJ i0 hi);have hL:=DV (ix a.pop i) (ix b.pop i) h1.1 (by have:=h2.1;omega) h1.2 λr hr=>by have:=h2.2 r hr;omega
  by_cases he:ix a.pop i=ix b.pop i
  .rw[mf he]at hL
   simp[-aj,c6,Lv,hi,i0,hL];have:=hb.pop.1;exact⟨aa,aD (i+1) rfl rfl ⟨aa,aa,lN he i2⟩ aa⟩
  .rw[oq he]at hL
   simp[-aj,c6,Lv,hi,i0,hL,pO (λn=>ix n.pop i) he]
 .have c7:a.pop=b.pop:=xc c6 λj j0 j1=>i2 j j0 aa
  have hA:=aoh a.accept b.accept ha.acc hb.acc;have hC:=DV a.call b.call ha.call.1 (by have:=hb.call.1;omega) ha.call.2 λr hr=>by have:=hb.call.2 r hr;omega
  have hP:=DV a.push b.push ha.push.1 (by have:=hb.push.1;omega) ha.push.2 λr hr=>by have:=hb.push.2 r hr;omega
  have hI:=DV a.inner b.inner ha.inner.1 (by have:=hb.inner.1;omega) ha.inner.2 λr hr=>by have:=hb.inner.2 r hr;omega
  by_cases d1:a.accept=b.accept
  case neg=>rw[oq d1]at hA;simp[-aj,Lv,hi,hA,pO (λn=>n.accept) d1]
  rw[mf d1]at hA
  by_cases d2:a.call=b.call
  case neg=>rw[oq d2]at hC;simp[-aj,Lv,hi,hA,hC,pO (λn=>n.call) d2]
  rw[mf d2]at hC
  by_cases d3:a.push=b.push
  case neg=>rw[oq d3]at hP;simp[-aj,Lv,hi,hA,hC,hP,pO (λn=>n.push) d3]
  rw[mf d3]at hP
  by_cases d4:a.inner=b.inner
  case neg=>rw[oq d4]at hI;simp[-aj,Lv,hi,hA,hC,hP,hI,pO (λn=>n.inner) d4]
  rw[mf d4]at hI;have:pN a b=true:=Lu.2 (ao.ext' c1 c2 c3 c4 c5 d1 d2 d3 d4 c7);simp[-aj,Lv,hi,hA,hC,hP,hI,this]
structure ao.entry (n:ao):Prop where
 start:n.start=0
 stack:n.stack=max 1 ((n.accept.length:Int)*n.calls)
 call:∀s c:Int,0<=s->s<(n.accept.length:Int)->0<=c->c<n.calls->ix (ix n.call s) c=0
 push:∀s c:Int,0<=s->s<(n.accept.length:Int)->0<=c->c<n.calls->ix (ix n.push s) c=s*n.calls+c
end Ab
