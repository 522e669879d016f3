/- The words that are no proper prefixes of others; and what it leans on. Condition: none. -/
import Derived.Test.YtdenhmniigikcaaGreatN44P
import Derived.Test.YtdenhmniigikcaaGreatFrz
import Derived.Test.YtdenhmniigikcaaGreatN43Sh
import Derived.Test.YtdenhmniigikcaaGreatS44T
set_option linter.all false
set_option maxRecDepth 100000
set_option maxHeartbeats 4000000
namespace Ab
def eQ:List Int->List Int->Nat
 |x::a,y::b=>if x=y then eQ a b+1 else 0
 |_,_=>0
def SQ:∀a b,eQ a b<=a.length/\eQ a b<=b.length
 | [],b=>by simp[eQ]
 |_::_,[]=>by simp[eQ]
 |x::a,y::b=>by
  have:=SQ a b;unfold eQ;split<;>simp<;>omega
def Ce:∀{i:Nat}{a b:List Int},i<=a.length->i<=b.length->(∀j:Nat,j<i->ix a (j:Int)=ix b (j:Int))->(i=a.length\/i=b.length\/ix a (i:Int) ≠ ix b (i:Int))->eQ a b=i
 |0,[],b,_,_,_,_=>by simp[eQ]
 |0,_::_,[],_,_,_,_=>by simp[eQ]
 |0,x::a,y::b,_,_,_,h=>by
  rcases h with h|h|h
  .simp at h
  .simp at h
  .have h:¬x=y:=h
   unfold eQ;rw[aa h]
 |i+1,[],b,h,_,_,_=>by simp at h
 |i+1,_::_,[],_,h,_,_=>by simp at h
 |i+1,x::a,y::b,m,n,e,g=>by
  have d:∀(l:List Int) (z:Int) (j:Nat),ix (z::l) ((j+1:Nat):Int)=ix l (j:Int):=λl z j=>by simp[ix]
  have e0:=e 0 (by omega)
  have e0:x=y:=e0;unfold eQ;rw[ab e0,Ce (i:=i) (by simpa using m) (by simpa using n) (λj o=>by have:=e (j+1) (by omega);rwa [d,d]at this) ?_]
  rw[d,d]at g;simpa using g
def Jb:∀{w p:List Int},eQ w p=p.length↔p <+: w
 | [],[]=>by simp[eQ]
 | [],_::_=>by simp[eQ]
 |_::_,[]=>by simp[eQ]
 |x::w,y::p=>by
  have:=Jb (w:=w) (p:=p);unfold eQ;rw[List.cons_prefix_cons]
  by_cases e:x=y
  .rw[ab e];simp[e,this]
  .rw[aa e];simp;intro h;exact absurd h.symm e
def Cf (a b:List Int) (n:(a.length:Int)<=9223372036854775807) (o:(b.length:Int)<=9223372036854775807):PC Ax [iL a,iL b]=some (.int (eQ a b)):=by
 refine bP (ag3 rfl ?_);simp;refine aM (λi:Nat=>[(2,.int i)]) (λ_=>[]) (λi=>i<=a.length/\i<=b.length/\∀j:Nat,j<i->ix a (j:Int)=ix b (j:Int)) (λi=>a.length-i) 0 (by simp[a8]) ⟨by omega,by omega,λj h=>by omega⟩ λi ⟨g,i1,d⟩=>?_
 by_cases l:i<a.length
 .by_cases m:i<b.length
  .simp[-ag,l,m]
   refine⟨λh=>⟨by omega,az (i+1) (by simp) rfl ⟨by omega,by omega,λj m=>?_⟩ (by omega)⟩,λh=>?_⟩
   .by_cases e:j=i
    .subst e;exact h
    .exact d j (by omega)
   .rw[Ce g i1 d (.inr (.inr h))]
  .have e:eQ a b=i:=Ce g i1 d (by omega)
   simp[l,m,e]
 .have e:eQ a b=i:=Ce g i1 d (by omega)
  simp[l,e]
def aly{a b:List Int}:(a.length=b.length/\eQ a b=a.length)↔a=b:=by
 constructor
 .rintro⟨d,e⟩
  have:=(Jb (w:=a) (p:=b)).1 (by omega)
  exact(this.eq_of_length d.symm).symm
 .rintro rfl
  exact⟨rfl,Jb.2 (List.prefix_refl _)⟩
def SR (a b:List Int) (d:(a.length:Int)<=9223372036854775807) (g:(b.length:Int)<=9223372036854775807):PC xM [iL a,iL b]=some (.bool (decide (a=b))):=by
 refine bP (agG rfl ?_);have h:=aly (a:=a) (b:=b)
 by_cases e:a=b
 .subst e
  have:=h.2 rfl;simp[Cf a a d d,this.2]
 .by_cases i:a.length=b.length
  .have:¬eQ a b=a.length:=λj =>e (h.1 ⟨i,j⟩)
   simp[Cf a b d g,e,show(a.length:Int)=b.length by omega]
   omega
  .simp[Cf a b d g,e,show ¬(a.length:Int)=b.length by omega]
def SS:∀(a b:List Int),b8 a b=if eQ a b=a.length then(if eQ a b=b.length then 0 else -1)else if eQ a b<b.length/\ix a (eQ a b:Int)<ix b (eQ a b:Int)then -1 else 1
 | [],[]=>by simp[b8,eQ]
 | [],_::_=>by simp[b8,eQ]
 |_::_,[]=>by simp[b8,eQ]
 |x::a,y::b=>by
  have g:=SS a b;have d:∀(l:List Int) (z:Int) (j:Nat),ix (z::l) ((j+1:Nat):Int)=ix l (j:Int):=λl z j=>by simp[ix]
  unfold b8 eQ
  by_cases e:x=y
  .subst e
   rw[aa (by omega),aa (by omega),ab rfl,g,d,d]
   simp
  .rw[aa e]
   have i:ix (x::a) ((0:Nat):Int)=x:=rfl;have m:ix (y::b) ((0:Nat):Int)=y:=rfl;rw[i,m]
   by_cases h:x<y
   .simp[h]
   .simp[h];omega
def alz (a b:List Int) (l:(a.length:Int)<=9223372036854775807) (m:(b.length:Int)<=9223372036854775807):PC Ho [iL a,iL b]=some (.int (b8 a b)):=by
 refine bP (ag4 rfl ?_);have hle:=SQ a b;have g:=Cf a b l m;have d:=SS a b;generalize eQ a b=n at *
 by_cases i:n=a.length
 .by_cases e:n=b.length
  .rw[ab i,ab e]at d
   simp[g,d,show(n:Int)=a.length by omega,show(n:Int)=b.length by omega,show(a.length:Int)=b.length by omega]
  .rw[ab i,aa e]at d
   simp[g,d,show(n:Int)=a.length by omega,show ¬(a.length:Int)=b.length by omega]
 .rw[aa i]at d
  by_cases e:n<b.length/\ix a (n:Int)<ix b (n:Int)
  .rw[ab e]at d
   simp[g,d,show ¬(n:Int)=a.length by omega,e.1,e.2,show n<a.length by omega]
  .rw[aa e]at d
   by_cases j:n<b.length
   .simp[g,d,show ¬(n:Int)=a.length by omega,j,show n<a.length by omega,show ¬ix a (n:Int)<ix b (n:Int)from λh=>e ⟨j,h⟩]
   .simp[g,d,show ¬(n:Int)=a.length by omega,j,show n<a.length by omega]
def alA (a b:List Int) (h:(a.length:Int)<=9223372036854775807) (i:(b.length:Int)<=9223372036854775807):PC ET [iL a,iL b]=some (.int (aP a b)):=by
 refine bP (agI rfl ?_);have e:=alz a b h i;unfold aP
 by_cases d:a.length<b.length
 .simp[d]
 .by_cases g:b.length<a.length
  .simp[d,g]
  .simp[d,g,e]
def al.cs (n:al):List AV:=[.int n.calls,.int n.af,.int n.aj,.int n.stack,.int n.start,bL n.accept,bN n.call,bN n.push,bN n.inner,dR n.pop]
section
variable{a b:al}
end
def sg (e:Int):AV:=.bF [.au false [],.bool false,.int e]
noncomputable def Jc (a b:al):AV:=if a.aX ≠ 0 then sg a.aX else if b.aX ≠ 0 then sg b.aX else if a.calls ≠ b.calls\/a.af ≠ b.af\/a.aj ≠ b.aj then sg 15 else tR ((cW a b).aQ.f1 (cW a b).start (ix (cW a b).accept)) ((cW a b).aQ.zp (cW a b).start (ix (cW a b).accept))
def SU{a b:al}(e:a.Ok) (d:b.Ok) (g:a.small=true) (h:b.small=true) (i:a.calls=b.calls) (j:a.af=b.af) (l:a.aj=b.aj):fW a b:=by
 simp only[al.small,aA,dY]at g h;have m:a.accept.length*b.accept.length<=5*5:=oP (by omega) (by omega)
 have n:a.stack*b.stack<=6*6:=Int.mul_le_mul (by omega) (by omega) (by have:=d.stack;omega) (by omega)
 exact⟨e,d,i.symm,j.symm,l.symm,by omega,by omega⟩
section
variable{a b:al}
variable{x y:Int}
theorem SV (h:fW a b)(g:0<=x/\x<(a.accept.length:Int)) (d:0<=y/\y<(b.accept.length:Int)):ix (cW a b).accept (pr b x y)=(ix a.accept x != ix b.accept y):=by
 have i:=r9 h g d;obtain⟨j,l⟩:=uC g.1 d.1 d.2;have e:ix (cW a b).accept (pr b x y)=mD a b (pr b x y).toNat:=fA i.1 i.2;rw[e];unfold mD;rw[j,l]
variable{w:List Int}
theorem alB (h:fW a b){l:Int}(m:0<=y/\y<(b.accept.length:Int)) (k:Wd a.aQ x l w):∃e, (0<=e /\e < (b.accept.length:Int))/\Wd b.aQ y e w:=by
 have g:=h.oa;have d:=h.ob;obtain⟨n,o,_⟩:=(qx (M:=a.aQ) ⟨g.calls.1,g.af.1,g.aj.1⟩).1 k;have ec:b.aQ.calls=a.aQ.calls:=h.c;have ei:b.aQ.af=a.aQ.af:=h.i;have p:b.aQ.aj=a.aQ.aj:=h.r;have j:=(qx (M:=b.aQ) (s:=y) (w:=w) ⟨d.calls.1,d.af.1,d.aj.1⟩).2 ⟨by rw[ec,ei,p];exact n,by rw[ec,ei];exact o,rfl⟩
 exact⟨_,j.range (me d) m,j⟩
theorem alC (h:fW a b){x y l : Int}(m:0<=x/\x<(a.accept.length:Int)) (k:Wd b.aQ y l w):∃e, (0<=e /\e < (a.accept.length:Int))/\Wd a.aQ x e w:=by
 have d:=h.oa;have g:=h.ob;obtain⟨n,o,_⟩:=(qx (M:=b.aQ) ⟨g.calls.1,g.af.1,g.aj.1⟩).1 k;have ec:b.aQ.calls=a.aQ.calls:=h.c;have ei:b.aQ.af=a.aQ.af:=h.i;have p:b.aQ.aj=a.aQ.aj:=h.r;have j:=(qx (M:=a.aQ) (s:=x) (w:=w) ⟨d.calls.1,d.af.1,d.aj.1⟩).2 ⟨by rw[<-ec,<-ei,<-p];exact n,by rw[<-ec,<-ei];exact o,rfl⟩
 exact⟨_,j.range (me d) m,j⟩
theorem alD (a b:al) (sa:a.small=true) (sb:b.small=true):(∃e:Int,e ≠ 0/\Jc a b = .bF [.au false [],.bool false,.int e])\/(fW a b/\a.aX=0/\b.aX=0/\(((cW a b).aQ.f1 (cW a b).start (ix (cW a b).accept)=none/\(cW a b).aQ.zp (cW a b).start (ix (cW a b).accept)=0/\Jc a b = .bF [.au false [],.bool false,.int 0])\/∃w,(cW a b).aQ.f1 (cW a b).start (ix (cW a b).accept)=some w/\Jc a b = .bF [iL w,.bool true,.int 0])):=by
 unfold Jc
 by_cases hv:a.aX=0
 case neg=>rw[ab hv];exact .inl ⟨_,hv,rfl⟩
 by_cases hw:b.aX=0
 case neg=>rw[aa (by simpa using hv),ab hw];exact .inl ⟨_,hw,rfl⟩
 by_cases hx:a.calls ≠ b.calls\/a.af ≠ b.af\/a.aj ≠ b.aj
 .rw[aa (by simpa using hv),aa (by simpa using hw),ab hx]
  exact .inl ⟨15,by simp,rfl⟩
 rw[aa (by simpa using hv),aa (by simpa using hw),aa hx]
 have c1:a.calls=b.calls:=cZ λh=>hx (.inl h);have c2:a.af=b.af:=cZ λh=>hx (.inr (.inl h));have c3:a.aj=b.aj:=cZ λh=>hx (.inr (.inr h));have hp:=SU (og hv) (og hw) sa sb c1 c2 c3;cases hf:(cW a b).aQ.f1 (cW a b).start (ix (cW a b).accept)with
 |none=>
  by_cases he:(cW a b).aQ.zp (cW a b).start (ix (cW a b).accept)=0
  .exact .inr ⟨hp,hv,hw,.inl ⟨rfl,he,by rw[he];rfl⟩⟩
  .exact .inl ⟨_,he,rfl⟩
 |some w=>exact .inr ⟨hp,hv,hw,.inr ⟨w,rfl,rfl⟩⟩
end
def Jd (n:al) (h:n.fits) (d:n.aX=0->n.accept.length^n.aZ.length<=512):∃q:al×Int,PC o7 [n.av]=some (.bF [q.1.av,.int q.2])/\(n.aX ≠ 0->q=(zN,n.aX))/\(n.aX=0->∃ws,gP n.dS n.bB ws/\q=zt n.dS n.bB ws):=by
 obtain⟨⟨r,e⟩,g,b⟩:=ak8 n h (vP n) (λa plc i=>ali (og a) i) alj;refine⟨(r,e),g,λa=>?_,λa=>?_⟩
 .cases b with
  |inv _=>rfl
  |many _ h _ _=>exact absurd h a
  |dz _ _ _ h _ _=>exact absurd h a
  |IZ _ _ _ _ _ h _ _=>exact absurd h a
  |ok _ _ _ _ _ _ h _ _ _ _=>exact absurd h a
 .have:=d a
  exact b.out a λD j=>Nat.le_trans j.few this
variable{n:al}
theorem Je(h:n.kM=true):(n.accept.length:Int)<=3/\n.stack<=4/\n.small=true:=by
 simp only[al.kM,aA,dY]at h;exact⟨h.1.1.1,h.1.1.2,h.1.2⟩
theorem alE(a:n.Ok):n.aZ.length<=n.accept.length:=tF n.accept.length H6 (tL a)
theorem SX(h:n.kM=true) (d:n.aX=0):n.accept.length^n.aZ.length<=512:=by
 obtain⟨e,_,_⟩:=Je h;have g:=alE (og d);have i:=(og d).cP;have a:n.accept.length<=3:=by omega
 have b:n.aZ.length<=3:=by omega
 have j:n.accept.length^n.aZ.length<=3^n.aZ.length:=Nat.pow_le_pow_left a _;have l:3^n.aZ.length<=3^3:=Nat.pow_le_pow_right (by omega) b
 omega
variable{A:kj}{ws:List (List Int)}
theorem Jf{L:List Int->Prop}(h:A.Ok) (q:ws.length<=128) (u:ws.length*A.c.toNat<=128):(cA A L ws).UW/\(∀l∈(cA A L ws).call,l.length<=100000)/\(∀l∈(cA A L ws).push,l.length<=100000)/\(∀l∈(cA A L ws).inner,l.length<=100000)/\∀l∈(cA A L ws).pop,l.length<=100000/\∀m∈l,m.length<=100000:=by
 obtain⟨w,x,y,z,B⟩:=I3 (A:=A) (L:=L) (ws:=ws);have C:=h.s;have D:=h.p;have o:A.ay ws.length=max 1 (ws.length*A.c.toNat):=rfl;have i:∀l∈(cA A L ws).call,l.length<=64:=λl a=>by
  have:l∈List.replicate ws.length (List.replicate A.c.toNat (0:Int)):=a;rw[List.eq_of_mem_replicate this];simp;omega
 have j:∀l∈(cA A L ws).push,l.length<=64:=λl a=>by
  obtain⟨s,_,rfl⟩:=cB.1 a;simp;omega
 have n:∀l∈(cA A L ws).inner,l.length<=64:=λl a=>by
  obtain⟨s,_,rfl⟩:=cB.1 a;simp;omega
 have e:∀l∈(cA A L ws).pop,l.length<=128/\∀m∈l,m.length<=64:=λl a=>by
  obtain⟨s,_,rfl⟩:=cB.1 a;refine⟨by simp;omega,λm d=>?_⟩
  obtain⟨g,_,rfl⟩:=cB.1 d;simp;omega
 exact⟨⟨by omega,⟨by omega,λr b=>by have:=i r b;omega⟩,⟨by omega,λr b=>by have:=j r b;omega⟩,⟨by omega,λr b=>by have:=n r b;omega⟩,⟨by omega,λr b=>⟨by have:=(e r b).1;omega,λm d=>by have:=(e r b).2 m d;omega⟩⟩⟩,λl a=>by have:=i l a;omega,λl a=>by have:=j l a;omega,λl a=>by have:=n l a;omega,λl a=>⟨by have:=(e l a).1;omega,λm d=>by have:=(e l a).2 m d;omega⟩⟩
theorem SY{L:List Int->Prop}(h:(zt A L ws).2=0):(zt A L ws).1=cA A L ws/\ws.length<=128/\ws.length*A.c.toNat<=128/\∀w∈ws,w.length<=1024:=by
 unfold zt at h ⊢;split at h
 .simp at h
 .rename_i b
  split at h
  .simp at h
  .rename_i a
   rw[aa b,aa a];exact⟨rfl,by omega,by omega,λw d=>cZ λe=>a ⟨w,d,by omega⟩⟩
variable{w:List Int}
theorem Wd.ww{M:eI}{s t:Int}(h:Wd M s t w):Ww ⟨M.calls,M.af,M.aj⟩ w:=by
 induction h with
 |nil=>exact .nil
 |aH s i t w i0 i1 _ ih=>
  have:=Ww.app (Ww.aH (A:=⟨M.calls,M.af,M.aj⟩) [] i i0 i1 .nil) ih;exact this
 |call s c p r t u v c0 c1 r0 r1 _ _ U V=>
  have:=Ww.app (Ww.ak (A:=⟨M.calls,M.af,M.aj⟩) [] u c r c0 c1 r0 r1 .nil U) V;simpa using this
theorem SZ(h:n.bB w):Ww n.dS w:=by
 obtain⟨t,a,_⟩:=h;exact a.ww
structure jS (n:al) (ws:List (List Int)):Prop where
 ok:n.Ok
 r:gP n.dS n.bB ws
 k:ws.length<=128
 c:ws.length*n.dS.c.toNat<=128
theorem jS.o(h:jS n ws):(cA n.dS n.bB ws).Ok:=ale h.r h.ok.dS h.ok.syms.1 h.k h.c
theorem jS.wd(h:jS n ws)(U:Ww n.dS w):Wd (cA n.dS n.bB ws).aQ (cA n.dS n.bB ws).start (gn n.dS n.bB ws w) w:=by
 have:=alf h.r h.ok.dS U [] .nil;have V:=h.r.I4 h.ok.dS;have e0:gn n.dS n.bB ws []=0:=vO h.r .nil (by omega) (by omega) (by rw[V.2];exact jt.refl _)
 rw[e0,oQ]at this;exact this
theorem jS.bB(h:jS n ws):(cA n.dS n.bB ws).bB=n.bB:=by
 funext w
 apply propext;constructor
 .intro hl
  have U:Ww n.dS w:=SZ (n:=cA n.dS n.bB ws) hl;obtain⟨t,ht,V⟩:=hl;have:=(h.wd U).pO h.o.m0 ht;rw[<-this]at V;exact(SA h.r U).1 V
 .intro hl
  have U:=SZ hl;exact⟨_,h.wd U,(SA h.r U).2 hl⟩
theorem jS.entry(h:jS n ws):(cA n.dS n.bB ws).entry:=by
 have U:=(I3 (A:=n.dS) (L:=n.bB) (ws:=ws)).1;have hc:=h.ok.calls;refine⟨rfl,?_,λs c s0 s1 V c1=>(yQ s0 (by rw[U]at s1;exact s1) V c1).1,λs c s0 s1 V c1=>(yQ s0 (by rw[U]at s1;exact s1) V c1).2⟩
 rw[U];show((max 1 (ws.length*n.calls.toNat):Nat):Int)=max 1 ((ws.length:Int)*n.calls);have:(ws.length:Int)*n.calls=((ws.length*n.calls.toNat:Nat):Int):=by rw[iI];congr 1;omega
 rw[this];omega
end Ab
