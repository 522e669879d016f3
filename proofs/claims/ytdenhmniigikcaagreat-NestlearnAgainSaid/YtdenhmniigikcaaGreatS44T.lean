/- The laws of the chapter, as the interpreter finds them; and what it leans on. Condition: none. -/
import Derived.Test.YtdenhmniigikcaaGreatCan
import Derived.Test.YtdenhmniigikcaaGreatN43Word
import Derived.Test.YtdenhmniigikcaaGreatS44S
import Derived.Test.YtdenhmniigikcaaGreatInts
set_option linter.all false
set_option maxRecDepth 100000
set_option maxHeartbeats 4000000
namespace Ab
open Go
abbrev Ap:Ty:=.st [.int,.int,.int,.int,.int,.sl .bool,.sl (.sl .int),.sl (.sl .int),.sl (.sl .int),.sl (.sl (.sl .int))]
theorem Fy{x:AV}(h:Ap.has x):∃n:ao,x=n.av/\n.fits:=by
 obtain⟨xs,rfl,h⟩:=h;simp only[Ty.sZ]at h;obtain⟨x0,s0,rfl,h0,x1,s1,rfl,h1,x2,s2,rfl,h2,x3,s3,rfl,h3,x4,s4,rfl,h4,x5,s5,rfl,h5,x6,s6,rfl,h6,x7,s7,rfl,h7,x8,s8,rfl,h8,x9,s9,rfl,h9,rfl⟩:=h;obtain⟨a0,rfl,k0⟩:=kA h0;obtain⟨a1,rfl,k1⟩:=kA h1;obtain⟨a2,rfl,k2⟩:=kA h2;obtain⟨a3,rfl,k3⟩:=kA h3;obtain⟨a4,rfl,k4⟩:=kA h4;obtain⟨a5,rfl,k5⟩:=Sh h5;obtain⟨a6,rfl,k6⟩:=rJ h6;obtain⟨a7,rfl,k7⟩:=rJ h7;obtain⟨a8,rfl,k8⟩:=rJ h8;obtain⟨a9,rfl,k9⟩:=Ey h9;exact⟨⟨a0,a1,a2,a3,a4,a5,a6,a7,a8,a9⟩,rfl,⟨k0,k1,k2,k3,k4,k5,λl hl=>(k6.2 l hl).1,λl hl=>(k7.2 l hl).1,λl hl=>(k8.2 l hl).1,λl hl=>⟨(k9.2 l hl).1,λm hm=>((k9.2 l hl).2 m hm).1⟩⟩⟩
end Ab
namespace Ab
def ao.small (n:ao):Bool:=decide ((n.accept.length:Int)<=5)&&decide (n.stack<=6)&&decide (n.calls<=6)&&decide (n.aj<=6)&&decide (n.aq<=6)&&decide (wr (wr (n.calls+n.aj)+n.aq)<=6)
theorem anb (n:ao) (h:n.fits):PC Io [n.av]=some (.bool n.small):=by
 refine cW (ahA rfl ?_)
 by_cases h1:(n.accept.length:Int)<=5<;>by_cases h2:n.stack<=6<;>by_cases h3:n.calls<=6<;>by_cases h4:n.aj<=6<;>by_cases h5:n.aq<=6<;>simp[h1,h2,h3,h4,h5,ao.small]
def ao.mS (n:ao):Bool:=decide ((n.accept.length:Int)<=3)&&decide (n.stack<=4)&&n.small&&decide (wr (wr (n.calls+n.aj)+n.aq)<=5)
theorem anc (n:ao) (h:n.fits):PC Il [n.av]=some (.bool n.mS):=by
 refine cW (ahu rfl ?_);have hs:=anb n h
 by_cases h1:(n.accept.length:Int)<=3<;>by_cases h2:n.stack<=4<;>cases h3:n.small<;>rw[h3]at hs<;>simp[h1,h2,h3,hs,ao.mS]
theorem ane (a b:List Bool) (ha:(a.length:Int)<=1000000) (hb:(b.length:Int)<=1000000):PC Ir [bL a,bL b]=some (.bool (decide (a=b))):=by
 refine cW (ahN rfl ?_)
 by_cases hl:a.length=b.length
 ·simp[-al,hl]
  refine bC (λi:Int=>[(2,.int i)]) (λ_=>[]) (λi=>0<=i/\i<=b.length/\∀j,0<=j->j<i->ix a j=ix b j) (λi=>(b.length-i).toNat) 0 rfl ⟨by omega,by omega,zx⟩ λi ⟨i0,i1,i2⟩=>?_
  by_cases hi:i<(b.length:Int)
  ·by_cases he:ix a i=ix b i
   ·simp[-al,hl,hi,i0,he]
    exact⟨by omega,ba (i+1) rfl rfl ⟨by omega,by omega,rI he i2⟩ (by omega)⟩
   ·have:¬a=b:=λe=>he (by rw[e])
    simp[-al,hl,hi,i0,he,this]
  ·have:a=b:=zy hl λj j0 j1=>i2 j j0 (by omega)
   simp[-al,hl,hi,this]
 ·have:¬a=b:=λe=>hl (by rw[e])
  have ct : ¬(a.length:Int)=(b.length:Int):=by omega
  simp[-al,hl,ct, this]
structure ao.Vc (n:ao):Prop where
 acc:(n.accept.length:Int)<=1000000
 call:(n.call.length:Int)<=1000000/\∀r∈n.call,(r.length:Int)<=1000000
 push:(n.push.length:Int)<=1000000/\∀r∈n.push,(r.length:Int)<=1000000
 inner:(n.inner.length:Int)<=1000000/\∀r∈n.inner,(r.length:Int)<=1000000
 pop:(n.pop.length:Int)<=1000000/\∀r∈n.pop,(r.length:Int)<=1000000/\∀m∈r,(m.length:Int)<=1000000
open Classical in
noncomputable def pC (a b:ao):Bool:=decide (a=b)
theorem Ku{a b:ao}:pC a b=true↔a=b:=by simp[pC]
theorem anf{a b:ao}(h:¬a=b):pC a b=false:=by simp[pC,h]
theorem pD{a b:ao}{α:Type}(f:ao->α) (h:¬f a=f b):pC a b=false:=anf λe=>h (by rw[e])
theorem ao.ext'{a b:ao}(h1:a.calls=b.calls) (h2:a.aj=b.aj) (h3:a.aq=b.aq) (h4:a.stack=b.stack) (h5:a.start=b.start) (h6:a.accept=b.accept) (h7:a.call=b.call) (h8:a.push=b.push) (h9:a.inner=b.inner) (Wy:a.pop=b.pop):a=b:=by
 cases a;cases b;simp_all
theorem Ve (a b:ao) (ha:a.Vc) (hb:b.Vc):PC zm [a.av,b.av]=some (.bool (pC a b)):=by
 refine cW (ahx rfl ?_)
 by_cases c1:a.calls=b.calls
 case neg=>simp[-al,c1,pD (λn=>n.calls) c1]
 by_cases c2:a.aj=b.aj
 case neg=>simp[-al,c1,c2,pD (λn=>n.aj) c2]
 by_cases c3:a.aq=b.aq
 case neg=>simp[-al,c1,c2,c3,pD (λn=>n.aq) c3]
 by_cases c4:a.stack=b.stack
 case neg=>simp[-al,c1,c2,c3,c4,pD (λn=>n.stack) c4]
 by_cases c5:a.start=b.start
 case neg=>simp[-al,c1,c2,c3,c4,c5,pD (λn=>n.start) c5]
 by_cases c6:a.pop.length=b.pop.length
 case neg=>
  have c6' : ¬(a.pop.length:Int)=(b.pop.length:Int):=by omega
  simp[-al,c1,c2,c3,c4,c5,c6,c6', pD (λn=>n.pop.length) c6]
 simp[-al,c1,c2,c3,c4,c5,c6];refine bC (λi:Int=>[(4,.int i)]) (λ_=>[]) (λi=>0<=i/\i<=b.pop.length/\∀j,0<=j->j<i->ix a.pop j=ix b.pop j) (λi=>(b.pop.length-i).toNat) 0 rfl ⟨by omega,by omega,zx⟩ λi ⟨i0,i1,i2⟩=>?_
 have Kv:(a.pop.length:Int)=(b.pop.length:Int):=by omega
 by_cases hi:i<(b.pop.length:Int)
 ·have h1:=ha.pop.2 _ (aZ (l:=a.pop) i0 (by omega))
  have h2:=hb.pop.2 _ (aZ i0 hi);have hL:=Fx (ix a.pop i) (ix b.pop i) h1.1 (by have:=h2.1;omega) h1.2 λr hr=>by have:=h2.2 r hr;omega
  by_cases he:ix a.pop i=ix b.pop i
  ·rw[decide_eq_true he]at hL
   simp[-al,c6,Kv,hi,i0,hL];have:=hb.pop.1;exact⟨by omega,ba (i+1) rfl rfl ⟨by omega,by omega,rI he i2⟩ (by omega)⟩
  ·rw[rj he]at hL
   simp[-al,c6,Kv,hi,i0,hL,pD (λn=>ix n.pop i) he]
 ·have c7:a.pop=b.pop:=zy c6 λj j0 j1=>i2 j j0 (by omega)
  have hA:=ane a.accept b.accept ha.acc hb.acc;have hC:=Fx a.call b.call ha.call.1 (by have:=hb.call.1;omega) ha.call.2 λr hr=>by have:=hb.call.2 r hr;omega
  have hP:=Fx a.push b.push ha.push.1 (by have:=hb.push.1;omega) ha.push.2 λr hr=>by have:=hb.push.2 r hr;omega
  have hI:=Fx a.inner b.inner ha.inner.1 (by have:=hb.inner.1;omega) ha.inner.2 λr hr=>by have:=hb.inner.2 r hr;omega
  by_cases d1:a.accept=b.accept
  case neg=>rw[rj d1]at hA;simp[-al,Kv,hi,hA,pD (λn=>n.accept) d1]
  rw[decide_eq_true d1]at hA
  by_cases d2:a.call=b.call
  case neg=>rw[rj d2]at hC;simp[-al,Kv,hi,hA,hC,pD (λn=>n.call) d2]
  rw[decide_eq_true d2]at hC
  by_cases d3:a.push=b.push
  case neg=>rw[rj d3]at hP;simp[-al,Kv,hi,hA,hC,hP,pD (λn=>n.push) d3]
  rw[decide_eq_true d3]at hP
  by_cases d4:a.inner=b.inner
  case neg=>rw[rj d4]at hI;simp[-al,Kv,hi,hA,hC,hP,hI,pD (λn=>n.inner) d4]
  rw[decide_eq_true d4]at hI;have:pC a b=true:=Ku.2 (ao.ext' c1 c2 c3 c4 c5 d1 d2 d3 d4 c7);simp[-al,Kv,hi,hA,hC,hP,hI,this]
structure ao.entry (n:ao):Prop where
 start:n.start=0
 stack:n.stack=max 1 ((n.accept.length:Int)*n.calls)
 call:∀s c:Int,0<=s->s<(n.accept.length:Int)->0<=c->c<n.calls->ix (ix n.call s) c=0
 push:∀s c:Int,0<=s->s<(n.accept.length:Int)->0<=c->c<n.calls->ix (ix n.push s) c=s*n.calls+c
end Ab
