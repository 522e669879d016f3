/- The laws of the chapter, as the interpreter finds them; and what it leans on. Condition: none. -/
import Derived.Test.YtdenhmniigikcaaGreatCan
import Derived.Test.YtdenhmniigikcaaGreatN43Word
import Derived.Test.YtdenhmniigikcaaGreatS44S
import Derived.Test.YtdenhmniigikcaaGreatInts
set_option linter.all false
set_option maxRecDepth 100000
set_option maxHeartbeats 4000000
namespace Ab
open Go
abbrev se:Ty:=.st [.int,.int,.int,.int,.int,.sl .bool,.sl (.sl .int),.sl (.sl .int),.sl (.sl .int),.sl (.sl (.sl .int))]
def uD{x:AV}(h:se.has x):∃n:al,x=n.av/\n.fits:=by
 obtain⟨xs,rfl,h⟩:=h;simp only[Ty.rG]at h;obtain⟨P,Q,rfl,d,R,S,rfl,e,T,U,rfl,g,V,W,rfl,i,X,Y,rfl,j,Z,s5,rfl,o,x6,s6,rfl,p,x7,s7,rfl,q,x8,s8,rfl,r,x9,s9,rfl,s,rfl⟩:=h;obtain⟨u,rfl,k0⟩:=j6 d;obtain⟨w,rfl,y⟩:=j6 e;obtain⟨z,rfl,A⟩:=j6 g;obtain⟨B,rfl,C⟩:=j6 i;obtain⟨D,rfl,E⟩:=j6 j;obtain⟨F,rfl,G⟩:=Qe o;obtain⟨H,rfl,I⟩:=qy p;obtain⟨J,rfl,K⟩:=qy q;obtain⟨L,rfl,M⟩:=qy r;obtain⟨N,rfl,b⟩:=Bu s;exact⟨⟨u,w,z,B,D,F,H,J,L,N⟩,rfl,⟨k0,y,A,C,E,G,λl a=>(I.2 l a).1,λl a=>(K.2 l a).1,λl a=>(M.2 l a).1,λl a=>⟨(b.2 l a).1,λm O=>((b.2 l a).2 m O).1⟩⟩⟩
end Ab
namespace Ab
def al.small (n:al):Bool:=decide ((n.accept.length:Int)<=5)&&decide (n.stack<=6)&&decide (n.calls<=6)&&decide (n.af<=6)&&decide (n.aj<=6)&&decide (wr (wr (n.calls+n.af)+n.aj)<=6)
def als (n:al) (h:n.fits):PC GX [n.av]=some (.bool n.small):=by
 refine bP (afZ rfl ?_)
 by_cases a:(n.accept.length:Int)<=5<;>by_cases b:n.stack<=6<;>by_cases d:n.calls<=6<;>by_cases e:n.af<=6<;>by_cases g:n.aj<=6<;>simp[a,b,d,e,g,al.small]
def al.kM (n:al):Bool:=decide ((n.accept.length:Int)<=3)&&decide (n.stack<=4)&&n.small&&decide (wr (wr (n.calls+n.af)+n.aj)<=5)
def SF (n:al) (h:n.fits):PC AI [n.av]=some (.bool n.kM):=by
 refine bP (afR rfl ?_);have a:=als n h
 by_cases d:(n.accept.length:Int)<=3<;>by_cases e:n.stack<=4<;>cases b:n.small<;>rw[b]at a<;>simp[d,e,b,a,al.kM]
def alu (a b:List Bool) (p:(a.length:Int)<=1000000) (q:(b.length:Int)<=1000000):PC G0 [bL a,bL b]=some (.bool (decide (a=b))):=by
 refine bP (agc rfl ?_)
 by_cases d:a.length=b.length
 .simp[-ag,d]
  refine aM (λi:Int=>[(2,.int i)]) (λ_=>[]) (λi=>0<=i/\i<=b.length/\∀j,0<=j->j<i->ix a j=ix b j) (λi=>(b.length-i).toNat) 0 rfl ⟨by omega,by omega,kH⟩ λi ⟨m,i1,n⟩=>?_
  by_cases h:i<(b.length:Int)
  .by_cases g:ix a i=ix b i
   .simp[-ag,d,h,m,g]
    exact⟨by omega,az (i+1) rfl rfl ⟨by omega,by omega,gC g n⟩ (by omega)⟩
   .have:¬a=b:=λe=>g (by rw[e])
    simp[-ag,d,h,m,g,this]
  .have:a=b:=tz d λj o r=>n j o (by omega)
   simp[-ag,d,h,this]
 .have:¬a=b:=λe=>d (by rw[e])
  have l : ¬(a.length:Int)=(b.length:Int):=by omega
  simp[-ag,d,l, this]
structure al.UW (n:al):Prop where
 acc:(n.accept.length:Int)<=1000000
 call:(n.call.length:Int)<=1000000/\∀r∈n.call,(r.length:Int)<=1000000
 push:(n.push.length:Int)<=1000000/\∀r∈n.push,(r.length:Int)<=1000000
 inner:(n.inner.length:Int)<=1000000/\∀r∈n.inner,(r.length:Int)<=1000000
 pop:(n.pop.length:Int)<=1000000/\∀r∈n.pop,(r.length:Int)<=1000000/\∀m∈r,(m.length:Int)<=1000000
open Classical in
noncomputable def mE (a b:al):Bool:=decide (a=b)
variable{a b:al}
theorem I7:mE a b=true↔a=b:=by simp[mE]
theorem SG(h:¬a=b):mE a b=false:=by simp[mE,h]
theorem oC{d:Type}(f:al->d) (h:¬f a=f b):mE a b=false:=SG λe=>h (by rw[e])
theorem al.ext'(h1:a.calls=b.calls) (h2:a.af=b.af) (h3:a.aj=b.aj) (h4:a.stack=b.stack) (h5:a.start=b.start) (h6:a.accept=b.accept) (h7:a.call=b.call) (V:a.push=b.push) (h9:a.inner=b.inner) (U:a.pop=b.pop):a=b:=by
 cases a;cases b;simp_all
theorem SH (a b:al) (ha:a.UW) (hb:b.UW):PC xU [a.av,b.av]=some (.bool (mE a b)):=by
 refine bP (afU rfl ?_)
 by_cases c1:a.calls=b.calls
 case neg=>simp[-ag,c1,oC (λn=>n.calls) c1]
 by_cases c2:a.af=b.af
 case neg=>simp[-ag,c1,c2,oC (λn=>n.af) c2]
 by_cases c3:a.aj=b.aj
 case neg=>simp[-ag,c1,c2,c3,oC (λn=>n.aj) c3]
 by_cases c4:a.stack=b.stack
 case neg=>simp[-ag,c1,c2,c3,c4,oC (λn=>n.stack) c4]
 by_cases c5:a.start=b.start
 case neg=>simp[-ag,c1,c2,c3,c4,c5,oC (λn=>n.start) c5]
 by_cases c6:a.pop.length=b.pop.length
 case neg=>
  have c6' : ¬(a.pop.length:Int)=(b.pop.length:Int):=by omega
  simp[-ag,c1,c2,c3,c4,c5,c6,c6', oC (λn=>n.pop.length) c6]
 simp[-ag,c1,c2,c3,c4,c5,c6];refine aM (λi:Int=>[(4,.int i)]) (λ_=>[]) (λi=>0<=i/\i<=b.pop.length/\∀j,0<=j->j<i->ix a.pop j=ix b.pop j) (λi=>(b.pop.length-i).toNat) 0 rfl ⟨by omega,by omega,kH⟩ λi ⟨i0,i1,i2⟩=>?_
 have I8:(a.pop.length:Int)=(b.pop.length:Int):=by omega
 by_cases hi:i<(b.pop.length:Int)
 .have h1:=ha.pop.2 _ (aO (l:=a.pop) i0 (by omega))
  have h2:=hb.pop.2 _ (aO i0 hi);have hL:=Cc (ix a.pop i) (ix b.pop i) h1.1 (by have:=h2.1;omega) h1.2 λr hr=>by have:=h2.2 r hr;omega
  by_cases he:ix a.pop i=ix b.pop i
  .rw[oW he]at hL
   simp[-ag,c6,I8,hi,i0,hL];have:=hb.pop.1;exact⟨by omega,az (i+1) rfl rfl ⟨by omega,by omega,gC he i2⟩ (by omega)⟩
  .rw[oV he]at hL
   simp[-ag,c6,I8,hi,i0,hL,oC (λn=>ix n.pop i) he]
 .have c7:a.pop=b.pop:=tz c6 λj j0 j1=>i2 j j0 (by omega)
  have hA:=alu a.accept b.accept ha.acc hb.acc;have hC:=Cc a.call b.call ha.call.1 (by have:=hb.call.1;omega) ha.call.2 λr hr=>by have:=hb.call.2 r hr;omega
  have hP:=Cc a.push b.push ha.push.1 (by have:=hb.push.1;omega) ha.push.2 λr hr=>by have:=hb.push.2 r hr;omega
  have hI:=Cc a.inner b.inner ha.inner.1 (by have:=hb.inner.1;omega) ha.inner.2 λr hr=>by have:=hb.inner.2 r hr;omega
  by_cases d1:a.accept=b.accept
  case neg=>rw[oV d1]at hA;simp[-ag,I8,hi,hA,oC (λn=>n.accept) d1]
  rw[oW d1]at hA
  by_cases d2:a.call=b.call
  case neg=>rw[oV d2]at hC;simp[-ag,I8,hi,hA,hC,oC (λn=>n.call) d2]
  rw[oW d2]at hC
  by_cases d3:a.push=b.push
  case neg=>rw[oV d3]at hP;simp[-ag,I8,hi,hA,hC,hP,oC (λn=>n.push) d3]
  rw[oW d3]at hP
  by_cases d4:a.inner=b.inner
  case neg=>rw[oV d4]at hI;simp[-ag,I8,hi,hA,hC,hP,hI,oC (λn=>n.inner) d4]
  rw[oW d4]at hI;have:mE a b=true:=I7.2 (al.ext' c1 c2 c3 c4 c5 d1 d2 d3 d4 c7);simp[-ag,I8,hi,hA,hC,hP,hI,this]
structure al.entry (n:al):Prop where
 start:n.start=0
 stack:n.stack=max 1 ((n.accept.length:Int)*n.calls)
 call:∀s c:Int,0<=s->s<(n.accept.length:Int)->0<=c->c<n.calls->ix (ix n.call s) c=0
 push:∀s c:Int,0<=s->s<(n.accept.length:Int)->0<=c->c<n.calls->ix (ix n.push s) c=s*n.calls+c
end Ab
