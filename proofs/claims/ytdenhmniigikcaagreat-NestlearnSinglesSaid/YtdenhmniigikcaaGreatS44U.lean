/- The words that are no proper prefixes of others; and what it leans on. Condition: none. -/
import Derived.Test.YtdenhmniigikcaaGreatN44P
import Derived.Test.YtdenhmniigikcaaGreatFrz
import Derived.Test.YtdenhmniigikcaaGreatN43Sh
import Derived.Test.YtdenhmniigikcaaGreatS44T
set_option linter.all false
set_option maxRecDepth 100000
set_option maxHeartbeats 4000000
namespace Ab
def fA:List Int->List Int->Nat
 |x::a,y::b=>if x=y then fA a b+1 else 0
 |_,_=>0
def VA:∀a b,fA a b<=a.length/\fA a b<=b.length
 | [],b=>by simp[fA]
 |_::_,[]=>by simp[fA]
 |x::a,y::b=>by
  have:=VA a b;unfold fA;split<;>simp<;>omega
def DY:∀{i:Nat}{a b:List Int},i<=a.length->i<=b.length->(∀j:Nat,j<i->ix a (j:Int)=ix b (j:Int))->(i=a.length\/i=b.length\/ix a (i:Int) ≠ ix b (i:Int))->fA a b=i
 |0,[],b,_,_,_,_=>by simp[fA]
 |0,_::_,[],_,_,_,_=>by simp[fA]
 |0,x::a,y::b,_,_,_,h=>by
  rcases h with h|h|h
  .simp at h
  .simp at h
  .have h:¬x=y:=h
   unfold fA;rw[ad h]
 |i+1,[],b,h,_,_,_=>by simp at h
 |i+1,_::_,[],_,h,_,_=>by simp at h
 |i+1,x::a,y::b,m,n,e,g=>by
  have d:∀(l:List Int) (z:Int) (j:Nat),ix (z::l) ((j+1:Nat):Int)=ix l (j:Int):=λl z j=>by simp[ix]
  have e0:=e 0 aa
  have e0:x=y:=e0;unfold fA;rw[ae e0,DY (i:=i) (by simpa using m) (by simpa using n) (λj o=>by have:=e (j+1) aa;rwa [d,d]at this) ?_]
  rw[d,d]at g;simpa using g
def Lx:∀{w p:List Int},fA w p=p.length↔p <+: w
 | [],[]=>by simp[fA]
 | [],_::_=>by simp[fA]
 |_::_,[]=>by simp[fA]
 |x::w,y::p=>by
  have:=Lx (w:=w) (p:=p);unfold fA;rw[List.cons_prefix_cons]
  by_cases e:x=y
  .rw[ae e];simp[e,this]
  .rw[ad e];simp;intro h;exact absurd h.symm e
def DZ (a b:List Int) (n:(a.length:Int)<=9223372036854775807) (o:(b.length:Int)<=9223372036854775807):PC Ca [iL a,iL b]=some (.int (fA a b)):=by
 refine bZ (aj5 rfl ?_);simp;refine aK (λi:Nat=>[(2,.int i)]) (λ_=>[]) (λi=>i<=a.length/\i<=b.length/\∀j:Nat,j<i->ix a (j:Int)=ix b (j:Int)) (λi=>a.length-i) 0 aX ⟨aa,aa,λj h=>aa⟩ λi ⟨g,i1,d⟩=>?_
 by_cases l:i<a.length
 .by_cases m:i<b.length
  .simp[-aj,l,m]
   refine⟨λh=>⟨aa,aD (i+1) ab rfl ⟨aa,aa,λj m=>?_⟩ aa⟩,λh=>?_⟩
   .by_cases e:j=i
    .subst e;exact h
    .exact d j aa
   .rw[DY g i1 d (.inr (.inr h))]
  .have e:fA a b=i:=DY g i1 d aa
   simp[l,m,e]
 .have e:fA a b=i:=DY g i1 d aa
  simp[l,e]
def aom{a b:List Int}:(a.length=b.length/\fA a b=a.length)↔a=b:=by
 constructor
 .rintro⟨d,e⟩
  have:=(Lx (w:=a) (p:=b)).1 aa
  exact(this.eq_of_length d.symm).symm
 .rintro rfl
  exact⟨rfl,Lx.2 (List.prefix_refl _)⟩
def VB (a b:List Int) (d:(a.length:Int)<=9223372036854775807) (g:(b.length:Int)<=9223372036854775807):PC B9 [iL a,iL b]=some (.bool (decide (a=b))):=by
 refine bZ (ajJ rfl ?_);have h:=aom (a:=a) (b:=b)
 by_cases e:a=b
 .subst e
  have:=h.2 rfl;simp[DZ a a d d,this.2]
 .by_cases i:a.length=b.length
  .have:¬fA a b=a.length:=λj =>e (h.1 ⟨i,j⟩)
   simp[DZ a b d g,e,show(a.length:Int)=b.length by omega]
   omega
  .simp[DZ a b d g,e,show ¬(a.length:Int)=b.length by omega]
def VC:∀(a b:List Int),cy a b=if fA a b=a.length then(if fA a b=b.length then 0 else -1)else if fA a b<b.length/\ix a (fA a b:Int)<ix b (fA a b:Int)then -1 else 1
 | [],[]=>by simp[cy,fA]
 | [],_::_=>by simp[cy,fA]
 |_::_,[]=>by simp[cy,fA]
 |x::a,y::b=>by
  have g:=VC a b;have d:∀(l:List Int) (z:Int) (j:Nat),ix (z::l) ((j+1:Nat):Int)=ix l (j:Int):=λl z j=>by simp[ix]
  unfold cy fA
  by_cases e:x=y
  .subst e
   rw[ad aa,ad aa,ae rfl,g,d,d]
   simp
  .rw[ad e]
   have i:ix (x::a) ((0:Nat):Int)=x:=rfl;have m:ix (y::b) ((0:Nat):Int)=y:=rfl;rw[i,m]
   by_cases h:x<y
   .simp[h]
   .simp[h];omega
def aon (a b:List Int) (l:(a.length:Int)<=9223372036854775807) (m:(b.length:Int)<=9223372036854775807):PC Hb [iL a,iL b]=some (.int (cy a b)):=by
 refine bZ (aj6 rfl ?_);have hle:=VA a b;have g:=DZ a b l m;have d:=VC a b;generalize fA a b=n at *
 by_cases i:n=a.length
 .by_cases e:n=b.length
  .rw[ae i,ae e]at d
   simp[g,d,show(n:Int)=a.length by omega,show(n:Int)=b.length by omega,show(a.length:Int)=b.length by omega]
  .rw[ae i,ad e]at d
   simp[g,d,show(n:Int)=a.length by omega,show ¬(a.length:Int)=b.length by omega]
 .rw[ad i]at d
  by_cases e:n<b.length/\ix a (n:Int)<ix b (n:Int)
  .rw[ae e]at d
   simp[g,d,show ¬(n:Int)=a.length by omega,e.1,e.2,show n<a.length by omega]
  .rw[ad e]at d
   by_cases j:n<b.length
   .simp[g,d,show ¬(n:Int)=a.length by omega,j,show n<a.length by omega,show ¬ix a (n:Int)<ix b (n:Int)from λh=>e ⟨j,h⟩]
   .simp[g,d,show ¬(n:Int)=a.length by omega,j,show n<a.length by omega]
def VD (a b:List Int) (h:(a.length:Int)<=9223372036854775807) (i:(b.length:Int)<=9223372036854775807):PC Cb [iL a,iL b]=some (.int (aI a b)):=by
 refine bZ (ajN rfl ?_);have e:=aon a b h i;unfold aI
 by_cases d:a.length<b.length
 .simp[d]
 .by_cases g:b.length<a.length
  .simp[d,g]
  .simp[d,g,e]
def ao.cs (n:ao):List AV:=[.int n.calls,.int n.ak,.int n.ah,.int n.stack,.int n.start,bL n.accept,b8 n.call,b8 n.push,b8 n.inner,fv n.pop]
section
variable{a b:ao}
end
def VE (n:ao) (h:n.fits) (d:n.bC=0->n.accept.length^n.bj.length<=512):∃q:ao×Int,PC rZ [n.av]=some (.bM [q.1.av,.int q.2])/\(n.bC ≠ 0->q=(zN,n.bC))/\(n.bC=0->∃ws,fy n.cK n.bh ws/\q=tM n.cK n.bh ws):=by
 obtain⟨⟨r,e⟩,g,b⟩:=an1 n h (vP n) (λa i j=>an9 (tx a) j) aoa;refine⟨(r,e),g,λa=>?_,λa=>?_⟩
 .cases b with
  |inv _=>rfl
  |many _ h _ _=>exact absurd h a
  |dK _ _ _ h _ _=>exact absurd h a
  |Lk _ _ _ _ _ h _ _=>exact absurd h a
  |ok _ _ _ _ _ _ h _ _ _ _=>exact absurd h a
 .have:=d a
  exact b.out a λD l=>Nat.le_trans l.few this
variable{n:ao}
def VF(h:n.nM=true):(n.accept.length:Int)<=3/\n.stack<=4/\n.small=true:=by
 simp only[ao.nM,aH,eo]at h;exact⟨h.1.1.1,h.1.1.2,h.1.2⟩
def aoo(a:n.Ok):n.bj.length<=n.accept.length:=tB n.accept.length Ks (tG a)
def aop(h:n.nM=true) (d:n.bC=0):n.accept.length^n.bj.length<=512:=by
 obtain⟨e,_,_⟩:=VF h;have g:=aoo (tx d);have i:=(tx d).eU;have a:n.accept.length<=3:=aa
 have b:n.bj.length<=3:=aa
 have j:n.accept.length^n.bj.length<=3^n.bj.length:=Nat.pow_le_pow_left a _;have l:3^n.bj.length<=3^3:=Nat.pow_le_pow_right aa b
 omega
def Ly:zN.Lt:=by constructor<;>simp[zN]
variable{A:lj}{ws:List (List Int)}
def VG{L:List Int->Prop}(h:A.Ok) (q:ws.length<=128) (u:ws.length*A.c.toNat<=128):(cJ A L ws).Lt/\(∀l∈(cJ A L ws).call,l.length<=100000)/\(∀l∈(cJ A L ws).push,l.length<=100000)/\(∀l∈(cJ A L ws).inner,l.length<=100000)/\∀l∈(cJ A L ws).pop,l.length<=100000/\∀m∈l,m.length<=100000:=by
 obtain⟨w,x,y,z,B⟩:=Lm (A:=A) (L:=L) (ws:=ws);have C:=h.s;have D:=h.p;have o:A.aE ws.length=max 1 (ws.length*A.c.toNat):=rfl;have i:∀l∈(cJ A L ws).call,l.length<=64:=λl a=>by
  have:l∈List.replicate ws.length (List.replicate A.c.toNat (0:Int)):=a;rw[List.eq_of_mem_replicate this];simp;omega
 have j:∀l∈(cJ A L ws).push,l.length<=64:=λl a=>by
  obtain⟨s,_,rfl⟩:=cx.1 a;simp;omega
 have n:∀l∈(cJ A L ws).inner,l.length<=64:=λl a=>by
  obtain⟨s,_,rfl⟩:=cx.1 a;simp;omega
 have e:∀l∈(cJ A L ws).pop,l.length<=128/\∀m∈l,m.length<=64:=λl a=>by
  obtain⟨s,_,rfl⟩:=cx.1 a;refine⟨ax,λm d=>?_⟩
  obtain⟨g,_,rfl⟩:=cx.1 d;simp;omega
 exact⟨⟨aa,⟨aa,λr b=>by have:=i r b;omega⟩,⟨aa,λr b=>by have:=j r b;omega⟩,⟨aa,λr b=>by have:=n r b;omega⟩,⟨aa,λr b=>⟨by have:=(e r b).1;omega,λm d=>by have:=(e r b).2 m d;omega⟩⟩⟩,λl a=>by have:=i l a;omega,λl a=>by have:=j l a;omega,λl a=>by have:=n l a;omega,λl a=>⟨by have:=(e l a).1;omega,λm d=>by have:=(e l a).2 m d;omega⟩⟩
def aoq{L:List Int->Prop}(a:A.Ok):(tM A L ws).1.Lt:=by
 unfold tM;split
 .exact Ly
 .split
  .exact Ly
  .exact(VG a aa aa).1
variable{w:List Int}
def Wd.ww{M:fX}{s t:Int}(h:Wd M s t w):Ww ⟨M.calls,M.ak,M.ah⟩ w:=by
 induction h with
 |nil=>exact .nil
 |aQ s i t w i0 i1 _ ih=>
  have:=Ww.app (Ww.aQ (A:=⟨M.calls,M.ak,M.ah⟩) [] i i0 i1 .nil) ih;exact this
 |call s c p r t u v c0 c1 r0 r1 _ _ nw oz=>
  have:=Ww.app (Ww.aq (A:=⟨M.calls,M.ak,M.ah⟩) [] u c r c0 c1 r0 r1 .nil nw) oz;simpa using this
def VH(h:n.bh w):Ww n.cK w:=by
 obtain⟨t,a,_⟩:=h;exact a.ww
structure mE (n:ao) (ws:List (List Int)):Prop where
 ok:n.Ok
 r:fy n.cK n.bh ws
 k:ws.length<=128
 c:ws.length*n.cK.c.toNat<=128
def mE.o(h:mE n ws):(cJ n.cK n.bh ws).Ok:=an5 h.r h.ok.cK h.ok.syms.1 h.k h.c
def mE.wd(h:mE n ws)(hw:Ww n.cK w):Wd (cJ n.cK n.bh ws).eA (cJ n.cK n.bh ws).start (gF n.cK n.bh ws w) w:=by
 have:=an6 h.r h.ok.cK hw [] .nil;have hn:=h.r.DQ h.ok.cK;have e0:gF n.cK n.bh ws []=0:=vh h.r .nil aa aa (by rw[hn.2];exact jw.refl _)
 rw[e0,mQ]at this;exact this
def mE.bh(h:mE n ws):(cJ n.cK n.bh ws).bh=n.bh:=by
 funext w
 apply propext;constructor
 .intro hl
  have hw:Ww n.cK w:=VH (n:=cJ n.cK n.bh ws) hl;obtain⟨t,ht,ha⟩:=hl;have:=(h.wd hw).oN h.o.m0 ht;rw[<-this]at ha;exact(Vq h.r hw).1 ha
 .intro hl
  have hw:=VH hl;exact⟨_,h.wd hw,(Vq h.r hw).2 hl⟩
def mE.entry(h:mE n ws):(cJ n.cK n.bh ws).entry:=by
 have l1:=(Lm (A:=n.cK) (L:=n.bh) (ws:=ws)).1;have hc:=h.ok.calls;refine⟨rfl,?_,λs c s0 s1 c0 c1=>(Ay s0 (by rw[l1]at s1;exact s1) c0 c1).1,λs c s0 s1 c0 c1=>(Ay s0 (by rw[l1]at s1;exact s1) c0 c1).2⟩
 rw[l1];show((max 1 (ws.length*n.calls.toNat):Nat):Int)=max 1 ((ws.length:Int)*n.calls);have:(ws.length:Int)*n.calls=((ws.length*n.calls.toNat:Nat):Int):=o6
 rw[this];omega
end Ab
