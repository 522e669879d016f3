/- The laws of the chapter, as the interpreter finds them. Laws about which states are connected, as the interpreter finds them. Small functions of the laws of chapter 44. Condition: none. -/
import Derived.Test.YtdenhmniigikcaaGreatCan
import Derived.Test.YtdenhmniigikcaaGreatN43Mat
import Derived.Test.YtdenhmniigikcaaGreatS44B
import Derived.Test.YtdenhmniigikcaaGreatS44S
import Derived.Test.YtdenhmniigikcaaGreatInts
set_option linter.all false
set_option maxRecDepth 100000
set_option maxHeartbeats 4000000
namespace Ab
open Go
abbrev AD:Ty:=.st [.int,.int,.int,.int,.int,.sl .bool,.sl (.sl .int),.sl (.sl .int),.sl (.sl .int),.sl (.sl (.sl .int))]
theorem F3{x:AV}(h:AD.has x):∃n:ak,x=n.av/\n.fits:=by
 obtain⟨xs,rfl,h⟩:=h;simp only[Ty.te]at h;obtain⟨x0,s0,rfl,h0,x1,s1,rfl,h1,x2,s2,rfl,h2,x3,s3,rfl,h3,x4,s4,rfl,h4,x5,s5,rfl,h5,x6,s6,rfl,h6,x7,s7,rfl,h7,x8,s8,rfl,h8,x9,s9,rfl,h9,rfl⟩:=h;obtain⟨a0,rfl,k0⟩:=kB h0;obtain⟨a1,rfl,k1⟩:=kB h1;obtain⟨a2,rfl,k2⟩:=kB h2;obtain⟨a3,rfl,k3⟩:=kB h3;obtain⟨a4,rfl,k4⟩:=kB h4;obtain⟨a5,rfl,k5⟩:=SZ h5;obtain⟨a6,rfl,k6⟩:=rN h6;obtain⟨a7,rfl,k7⟩:=rN h7;obtain⟨a8,rfl,k8⟩:=rN h8;obtain⟨a9,rfl,k9⟩:=E0 h9;exact⟨⟨a0,a1,a2,a3,a4,a5,a6,a7,a8,a9⟩,rfl,⟨k0,k1,k2,k3,k4,k5,λl hl=>(k6.2 l hl).1,λl hl=>(k7.2 l hl).1,λl hl=>(k8.2 l hl).1,λl hl=>⟨(k9.2 l hl).1,λm hm=>((k9.2 l hl).2 m hm).1⟩⟩⟩
end Ab
namespace Ab
def ak.small (n:ak):Bool:=decide ((n.accept.length:Int)<=5)&&decide (n.stack<=6)&&decide (n.calls<=6)&&decide (n.aj<=6)&&decide (n.aq<=6)&&decide (wr (wr (n.calls+n.aj)+n.aq)<=6)
theorem aok (n:ak) (h:n.fits):PC I5 [n.av]=some (.bool n.small):=by
 refine cu (aiq rfl ?_)
 by_cases h1:(n.accept.length:Int)<=5<;>by_cases h2:n.stack<=6<;>by_cases h3:n.calls<=6<;>by_cases h4:n.aj<=6<;>by_cases h5:n.aq<=6<;>simp[h1,h2,h3,h4,h5,ak.small]
def ak.mW (n:ak):Bool:=decide ((n.accept.length:Int)<=3)&&decide (n.stack<=4)&&n.small&&decide (wr (wr (n.calls+n.aj)+n.aq)<=5)
theorem aol (n:ak) (h:n.fits):PC IZ [n.av]=some (.bool n.mW):=by
 refine cu (aih rfl ?_);have hs:=aok n h
 by_cases h1:(n.accept.length:Int)<=3<;>by_cases h2:n.stack<=4<;>cases h3:n.small<;>rw[h3]at hs<;>simp[h1,h2,h3,hs,ak.mW]
theorem aom (a b:List Bool) (ha:(a.length:Int)<=1000000) (hb:(b.length:Int)<=1000000):PC I8 [bL a,bL b]=some (.bool (decide (a=b))):=by
 refine cu (aiD rfl ?_)
 by_cases hl:a.length=b.length
 ·simp[-ao,hl]
  refine bu (λi:Int=>[(2,.int i)]) (λ_=>[]) (λi=>0<=i/\i<=b.length/\∀j,0<=j->j<i->ix a j=ix b j) (λi=>(b.length-i).toNat) 0 rfl ⟨by omega,by omega,qn⟩ λi ⟨i0,i1,i2⟩=>?_
  by_cases hi:i<(b.length:Int)
  ·by_cases he:ix a i=ix b i
   ·simp[-ao,hl,hi,i0,he]
    exact⟨by omega,aX (i+1) rfl rfl ⟨by omega,by omega,kM he i2⟩ (by omega)⟩
   ·have:¬a=b:=λe=>he (by rw[e])
    simp[-ao,hl,hi,i0,he,this]
  ·have:a=b:=zK hl λj j0 j1=>i2 j j0 (by omega)
   simp[-ao,hl,hi,this]
 ·have:¬a=b:=λe=>hl (by rw[e])
  have cw : ¬(a.length:Int)=(b.length:Int):=by omega
  simp[-ao,hl,cw, this]
structure ak.XN (n:ak):Prop where
 acc:(n.accept.length:Int)<=1000000
 call:(n.call.length:Int)<=1000000/\∀r∈n.call,(r.length:Int)<=1000000
 push:(n.push.length:Int)<=1000000/\∀r∈n.push,(r.length:Int)<=1000000
 inner:(n.inner.length:Int)<=1000000/\∀r∈n.inner,(r.length:Int)<=1000000
 pop:(n.pop.length:Int)<=1000000/\∀r∈n.pop,(r.length:Int)<=1000000/\∀m∈r,(m.length:Int)<=1000000
open Classical in
noncomputable def pG (a b:ak):Bool:=decide (a=b)
theorem VP{a b:ak}:pG a b=true↔a=b:=by simp[pG]
theorem aon{a b:ak}(h:¬a=b):pG a b=false:=by simp[pG,h]
theorem pH{a b:ak}{α:Type}(f:ak->α) (h:¬f a=f b):pG a b=false:=aon λe=>h (by rw[e])
theorem ak.ext'{a b:ak}(h1:a.calls=b.calls) (h2:a.aj=b.aj) (h3:a.aq=b.aq) (h4:a.stack=b.stack) (h5:a.start=b.start) (h6:a.accept=b.accept) (h7:a.call=b.call) (h8:a.push=b.push) (h9:a.inner=b.inner) (Xc:a.pop=b.pop):a=b:=by
 cases a;cases b;simp_all
theorem aoo (a b:ak) (ha:a.XN) (hb:b.XN):PC Er [a.av,b.av]=some (.bool (pG a b)):=by
 refine cu (aik rfl ?_)
 by_cases c1:a.calls=b.calls
 case neg=>simp[-ao,c1,pH (λn=>n.calls) c1]
 by_cases c2:a.aj=b.aj
 case neg=>simp[-ao,c1,c2,pH (λn=>n.aj) c2]
 by_cases c3:a.aq=b.aq
 case neg=>simp[-ao,c1,c2,c3,pH (λn=>n.aq) c3]
 by_cases c4:a.stack=b.stack
 case neg=>simp[-ao,c1,c2,c3,c4,pH (λn=>n.stack) c4]
 by_cases c5:a.start=b.start
 case neg=>simp[-ao,c1,c2,c3,c4,c5,pH (λn=>n.start) c5]
 by_cases c6:a.pop.length=b.pop.length
 case neg=>
  have c6' : ¬(a.pop.length:Int)=(b.pop.length:Int):=by omega
  simp[-ao,c1,c2,c3,c4,c5,c6,c6', pH (λn=>n.pop.length) c6]
 simp[-ao,c1,c2,c3,c4,c5,c6];refine bu (λi:Int=>[(4,.int i)]) (λ_=>[]) (λi=>0<=i/\i<=b.pop.length/\∀j,0<=j->j<i->ix a.pop j=ix b.pop j) (λi=>(b.pop.length-i).toNat) 0 rfl ⟨by omega,by omega,qn⟩ λi ⟨i0,i1,i2⟩=>?_
 have Li:(a.pop.length:Int)=(b.pop.length:Int):=by omega
 by_cases hi:i<(b.pop.length:Int)
 ·have h1:=ha.pop.2 _ (aU (l:=a.pop) i0 (by omega))
  have h2:=hb.pop.2 _ (aU i0 hi);have hL:=F1 (ix a.pop i) (ix b.pop i) h1.1 (by have:=h2.1;omega) h1.2 λr hr=>by have:=h2.2 r hr;omega
  by_cases he:ix a.pop i=ix b.pop i
  ·rw[qd he]at hL
   simp[-ao,c6,Li,hi,i0,hL];have:=hb.pop.1;exact⟨by omega,aX (i+1) rfl rfl ⟨by omega,by omega,kM he i2⟩ (by omega)⟩
  ·rw[rp he]at hL
   simp[-ao,c6,Li,hi,i0,hL,pH (λn=>ix n.pop i) he]
 ·have c7:a.pop=b.pop:=zK c6 λj j0 j1=>i2 j j0 (by omega)
  have hA:=aom a.accept b.accept ha.acc hb.acc;have hC:=F1 a.call b.call ha.call.1 (by have:=hb.call.1;omega) ha.call.2 λr hr=>by have:=hb.call.2 r hr;omega
  have hP:=F1 a.push b.push ha.push.1 (by have:=hb.push.1;omega) ha.push.2 λr hr=>by have:=hb.push.2 r hr;omega
  have hI:=F1 a.inner b.inner ha.inner.1 (by have:=hb.inner.1;omega) ha.inner.2 λr hr=>by have:=hb.inner.2 r hr;omega
  by_cases d1:a.accept=b.accept
  case neg=>rw[rp d1]at hA;simp[-ao,Li,hi,hA,pH (λn=>n.accept) d1]
  rw[qd d1]at hA
  by_cases d2:a.call=b.call
  case neg=>rw[rp d2]at hC;simp[-ao,Li,hi,hA,hC,pH (λn=>n.call) d2]
  rw[qd d2]at hC
  by_cases d3:a.push=b.push
  case neg=>rw[rp d3]at hP;simp[-ao,Li,hi,hA,hC,hP,pH (λn=>n.push) d3]
  rw[qd d3]at hP
  by_cases d4:a.inner=b.inner
  case neg=>rw[rp d4]at hI;simp[-ao,Li,hi,hA,hC,hP,hI,pH (λn=>n.inner) d4]
  rw[qd d4]at hI;have:pG a b=true:=VP.2 (ak.ext' c1 c2 c3 c4 c5 d1 d2 d3 d4 c7);simp[-ao,Li,hi,hA,hC,hP,hI,this]
structure ak.entry (n:ak):Prop where
 start:n.start=0
 stack:n.stack=max 1 ((n.accept.length:Int)*n.calls)
 call:∀s c:Int,0<=s->s<(n.accept.length:Int)->0<=c->c<n.calls->ix (ix n.call s) c=0
 push:∀s c:Int,0<=s->s<(n.accept.length:Int)->0<=c->c<n.calls->ix (ix n.push s) c=s*n.calls+c
theorem aop (n:ak) (hn:n.Ok) (he:n.entry):PC I4 [n.av]=some (.bool true):=by
 refine cu (ain rfl ?_);have hs:=he.start;have hk:=he.stack;have bV:=hn.states;have hc:=hn.calls;have hm:0<=(n.accept.length:Int)*n.calls/\(n.accept.length:Int)*n.calls<=128*64:=⟨Int.mul_nonneg (by omega) hc.1,Int.le_trans (Int.mul_le_mul_of_nonneg_right (show(n.accept.length:Int)<=128 by omega) hc.1) (Int.mul_le_mul_of_nonneg_left hc.2 (by omega))⟩
 obtain⟨l1,l2,l3,l4⟩:=hn.lens;simp[-ao,hs,hk];refine⟨by omega,?_⟩
 refine bu (λi:Int=>[(2,.int i)]) (λ_=>[]) (λi=>0<=i/\i<=(n.accept.length:Int)) (λi=>(n.accept.length-i).toNat) 0 rfl ⟨by omega,by omega⟩ λs ⟨s0,s1⟩=>?_
 by_cases sc:s<(n.accept.length:Int)
 ·have dY:=hn.row s s0 sc
  have hsc:0<=s*n.calls/\s*n.calls<=128*64:=⟨Int.mul_nonneg s0 hc.1,Int.le_trans (Int.mul_le_mul_of_nonneg_right (show s<=128 by omega) hc.1) (Int.mul_le_mul_of_nonneg_left hc.2 (by omega))⟩
  simp[-ao,sc];refine bu (λi:Int=>[(3,.int i)]) (λ_=>[]) (λi=>0<=i/\i<=n.calls) (λi=>(n.calls-i).toNat) 0 rfl ⟨by omega,by omega⟩ λc ⟨c0,c1⟩=>?_
  by_cases nm:c<n.calls
  ·have e1:=he.call s c s0 sc c0 nm
   have e2:=he.push s c s0 sc c0 nm;have x1:=bH (show s<(n.call.length:Int)by omega)
   have x2:=bH (show s<(n.push.length:Int)by omega)
   have x3:=bH (show c<((ix n.call s).length:Int)by omega)
   have x4:=bH (show c<((ix n.push s).length:Int)by omega)
   simp[-ao,nm,s0,c0,x1,x2,x3,x4,e1,e2];exact⟨by omega,by omega,by omega,aX (c+1) rfl rfl ⟨by omega,by omega⟩ (by omega)⟩
  ·simp[-ao,nm]
   exact⟨by omega,aX (s+1) rfl rfl ⟨by omega,by omega⟩ (by omega)⟩
 ·simp[-ao,sc]
end Ab
