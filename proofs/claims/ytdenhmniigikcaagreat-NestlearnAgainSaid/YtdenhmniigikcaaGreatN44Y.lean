/- First words: extend, the program; and what it leans on. Condition: none. -/
import Derived.Test.YtdenhmniigikcaaGreatN44U
set_option linter.all false
set_option maxRecDepth 100000
set_option maxHeartbeats 4000000
namespace Ab
theorem ama (D:Vd) (hD:jO D) (S:Fd){p:Tf->Nat}{σ:List ag}(h:FS S D.vcs.av p σ) (hF:mc S) (hk:S.W.length=D.K.length){x:Nat}(hx:x<D.K.length) (f1:ix S.F (x:Int)=true) (hN0:S.N ≠ []) (hNl:S.N.length<=1000)
  (I6:∃wx,ix S.W (x:Int)=some wx) (hN:∀y∈S.N,(0<=y/\y<(D.K.length:Int))/\ix S.F y=true/\∃w,ix S.W y=some w) :
  LX L Eb [.ptr (p .f) 5 0,.int x] σ (λr τ=>r = .bQ []/\∃p', PE p p' /\FS (Fd.ext D x S) D.vcs.av p' τ):=by
 refine ah5 rfl ?_;obtain⟨wx,tA⟩:=I6;have hv:=h.has .f _ rfl;have fc:=hD.inl x hx;have AK:=hD.f.i;have lI:=hD.c;have wz:=hD.n;have x1:=bM (show(x:Int)<(D.IN.length:Int)by omega)
 have wl1:=hF.wl x wx (by omega) (by omega) tA
 have JP:Fd.ext D x S=Fd.ed D x wx (λy=>(ix S.W y).getD []) (Fd.ei D x wx S D.n.aj.toNat) S.N S.N.length:=by unfold Fd.ext;rw[tA];rfl
 rw[JP];simp[-al,hv,x1];refine bC (λq:Nat×(Tf->Nat)×List ag=>[(3,.int q.1)]) (λq=>q.2.2) (λq=>q.1<=D.n.aj.toNat/\PE p q.2.1/\FS (Fd.ei D x wx S q.1) D.vcs.av q.2.1 q.2.2) (λq=>D.n.aj.toNat-q.1) (0,p,σ) (by simp[bT]) ⟨by simp,⟨rfl,rfl⟩,h⟩ ?_
 rintro⟨i,p1,qf⟩ ⟨i0,jA,hS⟩;dsimp only at i0 jA hS ⊢;have K1:=Kp.ei hD hF hk hx wx i i0;have dQ:=hS.has .f _ rfl;have JO:=hS.has .wo _ rfl;rw[jA.1]at dQ
 by_cases hi:i<D.n.aj.toNat
 ·have WH:=bM (show(i:Int)<((ix D.IN (x:Int)).length:Int)by omega)
  have WI:=bM (show i<(ix D.IN (x:Int)).length by omega)
  have WC:0<=D.im x i/\D.im x i<(D.K.length:Int):=fc.2 _ (aZ (by omega) (by omega))
  have g1:=K1.k x (by omega) f1
  rw[tA]at g1;have zY:cq [(true,some wx),(false,some [D.n.calls+i])]=wx ++ [D.n.calls+i]:=by simp[cq]
  have hO:=JJ (Fd.ei D x wx S i) hS K1.w.ok (x:=(D.im x i).toNat) (by rw[K1.l];omega) [(true,some wx),(false,some [D.n.calls+i])] (by rw[zY];simp;omega) (by simp) (λo ho=>K1.w.wl _ _ (by omega) (by rw[K1.l];omega) ho) false
  obtain⟨rv,τ,hO,rfl,p2,nP,iC⟩:=dS hO;rw[zY]at iC;rw[jA.1]at hO;have nP:PE p p2:=⟨nP.1.trans jA.1,nP.2.trans jA.2⟩;have qO:((D.im x i).toNat:Int)=ix (ix D.IN (x:Int)) (i:Int):=by
   have:D.im x i=ix (ix D.IN (x:Int)) (i:Int):=rfl;omega
  rw[qO]at hO;have lx:=bM (show(x:Int)<((Fd.ei D x wx S i).W.length:Int)by rw[K1.l];omega)
  have lx2:=bM (show x<(Fd.ei D x wx S i).W.length by rw[K1.l];omega)
  simp only[List.map_cons,List.map_nil,w5]at hO;simp[-al,WH,WI,dQ,JO,lx,lx2,g1,oo,hO];exact⟨by omega,by omega,ba (i+1,p2,τ) (by simp) rfl ⟨by dsimp only;omega,nP,iC⟩ (by dsimp only;omega)⟩
 ·have WH:=gg (show ¬(i:Int)<((ix D.IN (x:Int)).length:Int)by omega)
  have WI:=gg (show ¬i<(ix D.IN (x:Int)).length by omega)
  have ei:i=D.n.aj.toNat:=by omega
  rw[<-ei];have rP:=hS.has .dn _ (aa (by rw[K1.n];exact hN0))
  have e6:cQ (p1 .dn) (Fd.ei D x wx S i).N.length = .sl (p1 .dn) S.N.length 0 S.N.length:=by
   rw[K1.n];exact aa λe=>hN0 (dW e)
  simp[-al,WH,WI,dQ,e6];have hNr:∀y∈S.N,0<=y/\y<(D.K.length:Int):=λy hy=>(hN y hy).1;have Lk:(Fd.ei D x wx S i).W.length=D.K.length:=by rw[K1.l,hk]
  refine bC (λq:Nat×(Tf->Nat)×List ag=>[(8,.int q.1)]) (λq=>q.2.2) (λq=>q.1<=S.N.length/\PE p1 q.2.1/\FS (Fd.ed D x wx (λy=>(ix S.W y).getD []) (Fd.ei D x wx S i) S.N q.1) D.vcs.av q.2.1 q.2.2) (λq=>S.N.length-q.1) (0,p1,qf) (by simp[bT]) ⟨by simp,⟨rfl,rfl⟩,hS⟩ ?_
  rintro⟨k,p2,pO⟩ ⟨k0,nP,iC⟩;dsimp only at k0 nP iC ⊢;have K2:=K1.trans (Kp.ed hD K1.w Lk hx wx (λy=>(ix S.W y).getD []) hNr k k0)
  by_cases nZ:k<S.N.length
  ·have hy:=hN _ (aZ (l:=S.N) (n:=(k:Int)) (by omega) (by omega))
   obtain⟨⟨y0,y1⟩,yf,wy,se⟩:=hy;have TQ:=iC.has .dn _ (aa (by rw[K2.n];exact hN0))
   rw[nP.2,K2.n]at TQ;simp[-al,nZ,TQ];have hed:Fd.ed D x wx (λy=>(ix S.W y).getD []) (Fd.ei D x wx S i) S.N (k+1)=Fd.ec D x (ix S.N (k:Int)).toNat wx wy (Fd.ed D x wx (λy=>(ix S.W y).getD []) (Fd.ei D x wx S i) S.N k) D.n.calls.toNat:=by
    show Fd.ec D x (ix S.N (k:Int)).toNat wx ((ix S.W (ix S.N (k:Int))).getD []) _ _=_;rw[se];rfl
   obtain⟨y,Jo⟩:∃y:Nat,ix S.N (k:Int)=y:=⟨(ix S.N (k:Int)).toNat,by omega⟩
   rw[Jo]at y0 y1 yf se hed;rw[Jo];rw[kE]at hed;have WJ:y<D.K.length:=by omega
   generalize hSk:Fd.ed D x wx (λy=>(ix S.W y).getD []) (Fd.ei D x wx S i) S.N k=Sk at *;have vf:Sk.W.length=D.K.length:=by rw[K2.l,hk]
   refine bC (λq:Nat×(Tf->Nat)×List ag=>[(11,.int q.1)]) (λq=>q.2.2) (λq=>q.1<=D.n.calls.toNat/\PE p q.2.1/\FS (Fd.ec D x y wx wy Sk q.1) D.vcs.av q.2.1 q.2.2) (λq=>D.n.calls.toNat-q.1) (0,p2,pO) (by simp[bT]) ⟨by simp,⟨nP.1.trans jA.1,nP.2.trans jA.2⟩,iC⟩ ?_
   rintro⟨c,p3,xL⟩ ⟨c0,mJ,ml⟩;dsimp only at c0 mJ ml ⊢;have K3:=Kp.ec hD K2.w vf hx WJ wx wy c c0;have K4:=K2.trans K3
   by_cases hc:c<D.n.calls.toNat
   ·have fW :=bM (show(c:Int)<D.n.calls by omega)
    have hk4:(Fd.ec D x y wx wy Sk c).W.length=D.K.length:=by rw[K4.l,hk]
    have WL:=TP D hD (Fd.ec D x y wx wy Sk c) ml K4.w hk4 hx WJ hc (wx:=wx) (wy:=wy) (by rw[K4.k _ (by omega) f1];exact tA) (by rw[K4.k _ (by omega) yf];exact se) (by rw[K4.f];exact f1) (by rw[K4.f];exact yf)
    obtain⟨r1,gk,WL,rfl,p4,wY,EM⟩:=dS WL;have K5:=K4.trans (Kp.enc hD K4.w hk4 hx WJ hc wx wy);have WM:=TP D hD _ EM K5.w (by rw[K5.l,hk]) WJ hx hc (wx:=wy) (wy:=wx) (by rw[K5.k _ (by omega) yf];exact se) (by rw[K5.k _ (by omega) f1];exact tA) (by rw[K5.f];exact yf) (by rw[K5.f];exact f1)
    obtain⟨r2,AT,WM,rfl,p5,Gn,JQ⟩:=dS WM;rw[mJ.1]at WL;rw[wY.1,mJ.1]at WM;simp[-al,fW, WL,WM];exact⟨by omega,ba (c+1,p5,AT) (by simp) rfl ⟨by dsimp only;omega,⟨Gn.1.trans (wY.1.trans mJ.1),Gn.2.trans (wY.2.trans mJ.2)⟩,JQ⟩ (by dsimp only;omega)⟩
   ·have fW :=gg (show ¬(c:Int)<D.n.calls by omega)
    have ec:c=D.n.calls.toNat:=by omega
    simp[-al,fW];refine⟨by omega,ba (k+1,p3,xL) (by simp) rfl ⟨by dsimp only;omega,⟨mJ.1.trans jA.1.symm,mJ.2.trans jA.2.symm⟩,?_⟩ (by dsimp only;omega)⟩
    dsimp only;rw[hed,<-ec];exact ml
  ·have ek:k=S.N.length:=by omega
   subst ek;simp[-al];exact⟨p2,⟨nP.1.trans jA.1,nP.2.trans jA.2⟩,iC⟩
inductive Dv (D:Vd):Int->List Int->Prop
 |nil:Dv D 0 []
 |aQ (x i:Int) (w:List Int):0<=i->i<D.n.aj->Dv D x w->Dv D (D.im x i) (w ++ [D.n.calls+i])
 |ak (x c y r:Int) (w u:List Int):0<=c->c<D.n.calls->0<=r->r<D.n.aq->Dv D x w->Dv D y u->Dv D (D.bk x c y r) (w++c::(u ++ [D.n.calls+D.n.aj+r]))
theorem Dv.fu{D:Vd}(h:jO D){x:Int}{w:List Int}(hd:Dv D x w):0<=x/\x<(D.K.length:Int):=by
 induction hd with
 |nil=>have:=h.k;omega
 |aQ x i w i0 i1 _ ih=>
  have:=h.inl x.toNat (by omega)
  rw[show((x.toNat:Nat):Int)=x by omega]at this
  have hn:=h.n;exact this.2 _ (aZ i0 (by omega))
 |ak x c y r w u c0 c1 r0 r1 _ _ lV mI=>
  have:=h.rN x.toNat c.toNat y.toNat (by omega) (by omega) (by omega)
  unfold Vd.bS Vd.row at this;rw[show((x.toNat:Nat):Int)=x by omega,show((c.toNat:Nat):Int)=c by omega,show((y.toNat:Nat):Int)=y by omega]at this
  have hr:=h.r;exact this.2 _ (aZ r0 (by omega))
def kP (D:Vd) (x:Int) (w:List Int):Prop:=Dv D x w/\∀v,Dv D x v->aV w v<=0
structure aqx (D:Vd) (n:Nat) (S:Fd):Prop where
 w:mc S
 l:S.W.length=D.K.length
 dv:∀x w,0<=x->x<(D.K.length:Int)->ix S.W x=some w->Dv D x w
 fd:∀x,0<=x->x<(D.K.length:Int)->(ix S.F x=true↔∃w,kP D x w/\w.length<n)
 lw:∀x w,kP D x w->w.length<n->w.length<=1024->ix S.W x=some w
theorem TR:∀{t u v:List Int},aV u v<0->aV (u++t) (v++t)<0
 | [],u,v,h=>by simpa using h
 |a::t,u,v,h=>by
  have:=TR (t:=t) (ED (a:=a) (b:=a) h);simpa using this
theorem amb{w u v:List Int}(h:aV u v<0):aV (w++u) (w++v)<0:=by
 unfold aV at h ⊢;simp only[bu]
 by_cases h1:u.length<v.length
 ·rw[ab (by omega)];omega
 ·rw[aa h1]at h
  by_cases h2:v.length<u.length
  ·rw[ab h2]at h;omega
  ·rw[aa h2]at h
   rw[aa (by omega),aa (by omega),EC rfl,yu,ab rfl]
   exact h
theorem kP.aQ{D:Vd}{x i:Int}{w:List Int}(i0:0<=i) (i1:i<D.n.aj) (hd:Dv D x w) (h:kP D (D.im x i) (w ++ [D.n.calls+i])):kP D x w:=
 ⟨hd,λv hv=>eS λhn=>by
  have h1:=h.2 _ (.aQ x i v i0 i1 hv);have h2:aV v w<0:=by have:=dJ.gF v w;omega
  have h3:=ED (a:=D.n.calls+i) (b:=D.n.calls+i) h2;have:=dJ.gF (v ++ [D.n.calls+i]) (w ++ [D.n.calls+i]);omega⟩
theorem kP.ak{D:Vd}{x c y r:Int}{w u:List Int}(c0:0<=c) (c1:c<D.n.calls) (r0:0<=r) (r1:r<D.n.aq) (hd:Dv D x w) (hu:Dv D y u) (h:kP D (D.bk x c y r) (w++c::(u ++ [D.n.calls+D.n.aj+r]))):kP D x w/\kP D y u:=by
 refine⟨⟨hd,λv hv=>eS λhn=>?_⟩,⟨hu,λv hv=>eS λhn=>?_⟩⟩
 ·have h1:=h.2 _ (.ak x c y r v u c0 c1 r0 r1 hv hu)
  have h2:aV v w<0:=by have:=dJ.gF v w;omega
  have h3:=TR (t:=c::(u ++ [D.n.calls+D.n.aj+r])) h2;have:=dJ.gF (v++c::(u ++ [D.n.calls+D.n.aj+r])) (w++c::(u ++ [D.n.calls+D.n.aj+r]));omega
 ·have h1:=h.2 _ (.ak x c y r w v c0 c1 r0 r1 hd hv)
  have h2:aV v u<0:=by have:=dJ.gF v u;omega
  have h3:=amb (w:=w ++ [c]) (ED (a:=D.n.calls+D.n.aj+r) (b:=D.n.calls+D.n.aj+r) h2);rw[iS,iS]at h3;have h3:aV (w++c::(v ++ [D.n.calls+D.n.aj+r])) (w++c::(u ++ [D.n.calls+D.n.aj+r]))<0:=h3;have:=dJ.gF (w++c::(v ++ [D.n.calls+D.n.aj+r])) (w++c::(u ++ [D.n.calls+D.n.aj+r]));omega
theorem kP.made{D:Vd}{z:Int}{t:List Int}(h:kP D z t):(z=0/\t=[])\/(∃x i w,0<=i/\i<D.n.aj/\kP D x w/\z=D.im x i/\t=w ++ [D.n.calls+i])\/(∃x c y r w u,0<=c/\c<D.n.calls/\0<=r/\r<D.n.aq/\kP D x w/\kP D y u/\z=D.bk x c y r/\t=w++c::(u ++ [D.n.calls+D.n.aj+r])):=by
 cases h.1 with
 |nil=>exact .inl ⟨rfl,rfl⟩
 |aQ x i w i0 i1 hd=>exact .inr (.inl ⟨x,i,w,i0,i1,kP.aQ i0 i1 hd h,rfl,rfl⟩)
 |ak x c y r w u c0 c1 r0 r1 hd hu=>
  have:=kP.ak c0 c1 r0 r1 hd hu h;exact .inr (.inr ⟨x,c,y,r,w,u,c0,c1,r0,r1,this.1,this.2,rfl,rfl⟩)
theorem kP.qK{D:Vd}{z:Int}{t s:List Int}(h:kP D z t) (g:kP D z s):t=s:=by
 have h1:=h.2 _ g.1;have h2:=g.2 _ h.1;have:=dJ.gF t s;exact dJ.eq t s (by omega)
theorem Dv.sym{D:Vd}(h:jO D){x:Int}{w:List Int}(hd:Dv D x w):∀a∈w,0<=a/\a<D.n.calls+D.n.aj+D.n.aq:=by
 have hc:=h.c;have hn:=h.n;have hr:=h.r
 induction hd with
 |nil=>simp
 |aQ x i w i0 i1 _ ih=>
  intro a ha;rcases eI.1 ha with ha|ha
  ·exact ih a ha
  ·simp at ha;omega
 |ak x c y r w u c0 c1 r0 r1 _ _ lV mI=>
  intro a ha;simp only[eI,cB,List.not_mem_nil,or_false]at ha;rcases ha with ha|rfl|ha|rfl
  ·exact lV a ha
  ·omega
  ·exact mI a ha
  ·omega
def qP (S:Fd) (z:Int) (t:List Int):Prop:=1024<t.length\/ix S.F z=true\/∃v,ix S.W z=some v/\aV v t<=0
structure Mo (D:Vd) (S T:Fd):Prop where
 k:Kp S T
 o:∀z t,0<=z->z<(S.W.length:Int)->qP S z t->qP T z t
 dv:(∀z w,0<=z->z<(S.W.length:Int)->ix S.W z=some w->Dv D z w)->∀z w,0<=z->z<(S.W.length:Int)->ix T.W z=some w->Dv D z w
 bk:(∀z w,0<=z->z<(S.W.length:Int)->ix S.F z=false->ix S.W z=some w->z∈S.dN w.length)->∀z w,0<=z->z<(S.W.length:Int)->ix T.F z=false->ix T.W z=some w->z∈T.dN w.length
theorem Mo.refl{D:Vd}{S:Fd}(h:mc S):Mo D S S:=⟨Kp.refl h,λ_ _ _ _ h=>h,λh=>h,λh=>h⟩
theorem Mo.trans{D:Vd}{S T U:Fd}(h:Mo D S T) (g:Mo D T U):Mo D S U:=by
 have e:=h.k.l;exact⟨h.k.trans g.k,λz t z0 z1 a=>g.o z t z0 (by rw[e];exact z1) (h.o z t z0 z1 a),λa z w z0 z1=>g.dv (λz w z0 z1=>h.dv a z w z0 (by rw[<-e];exact z1)) z w z0 (by rw[e];exact z1),λa z w z0 z1=>g.bk (λz w z0 z1=>h.bk a z w z0 (by rw[<-e];exact z1)) z w z0 (by rw[e];exact z1)⟩
theorem TS{S:Fd}(h:mc S){x:Nat}{c:List Int}(hc:c.length<=1024) (hf:ix S.F (x:Int)=false) (ng:∀w,ix S.W (x:Int)=some w->0<aV w c):(S.off x c).W=S.W.set x (some c)/\∀m,(S.off x c).dN m=if tX (ix S.W (x:Int)) c=true/\m=c.length then S.dN m ++ [(x:Int)]else S.dN m:=by
 have e:=JI rfl ng hc hf;have iv:c.length<S.R.length:=by rw[h.r];omega
 by_cases hn:tX (ix S.W (x:Int)) c=true
 ·rw[ab hn]at e
  rw[e];refine⟨rfl,λm=>?_⟩;have:=zV (S:={S with W:=S.W.set x (some c)}) (l:=S.dN c.length ++ [(x:Int)]) iv m
  rw[show Fd.dN (Fd.py {S with W:=S.W.set x (some c)} c.length x) m=if m=c.length then S.dN c.length ++ [(x:Int)]else S.dN m from this]
  by_cases em:m=c.length
  ·rw[ab em,ab ⟨hn,em⟩,em]
  ·rw[aa em,aa λa=>em a.2]
 ·rw[aa hn]at e
  rw[e];exact⟨rfl,λm=>by rw[aa λa=>hn a.1];rfl⟩
theorem Mo.off{D:Vd}{S:Fd}(h:mc S){x:Nat}(hx:x<S.W.length){c:List Int}(hd:Dv D x c):Mo D S (S.off x c)/\qP (S.off x c) x c:=by
 by_cases h1:1024<c.length\/ix S.F (x:Int)=true
 ·have e:S.off x c=S:=ab h1
  rw[e];exact⟨Mo.refl h,h1.imp id λa=>.inl a⟩
 have hc:c.length<=1024:=by omega
 have hf:ix S.F (x:Int)=false:=by
  cases e:ix S.F (x:Int)with
  |false=>rfl
  |true=>exact absurd (.inr e) h1
 by_cases h2:∃w,ix S.W (x:Int)=some w/\aV w c<=0
 ·have e:S.off x c=S:=by
   obtain⟨w,hw,hle⟩:=h2;unfold Fd.off;rw[aa h1,hw];exact ab hle
  rw[e];exact⟨Mo.refl h,.inr (.inr h2)⟩
 have ng:∀w,ix S.W (x:Int)=some w->0<aV w c:=λw hw=>eS λhn=>h2 ⟨w,hw,by omega⟩
 obtain⟨eW,eB⟩:=TS h hc hf ng;have eF:=(JM (S:=S) (x:=x) (c:=c)).2.1;have k:=Kp.off h hx c;have WN:∀z:Int,0<=z->ix (S.off x c).W z=if z=x then some c else ix S.W z:=λz z0=>by rw[eW,rO hx z0]
 refine⟨⟨k,λz t z0 z1 a=>?_,λa z w z0 z1 hw=>?_,λa z w z0 z1 P2 hw=>?_⟩,.inr (.inr ⟨c,by rw[WN _ (by omega),ab rfl],Int.le_of_eq (dJ.refl _)⟩)⟩
 ·rcases a with a|a|⟨v,a,b⟩
  ·exact .inl a
  ·exact .inr (.inl (by rw[eF];exact a))
  ·refine .inr (.inr ?_)
   rw[WN z z0]
   by_cases e:z=x
   ·subst e
    rw[ab rfl];have h3:=ng v a;have h4:=dJ.gF c v;exact⟨c,rfl,dJ.trans c v t (by omega) b⟩
   ·rw[aa e]
    exact⟨v,a,b⟩
 ·rw[WN z z0]at hw
  split at hw
  ·rename_i e
   injection hw with hw
   rw[e,<-hw];exact hd
  ·exact a z w z0 z1 hw
 ·rw[eF]at P2
  rw[WN z z0]at hw;rw[eB];split at hw
  ·rename_i e
   injection hw with hw
   subst hw
   by_cases hn:tX (ix S.W (x:Int)) c=true
   ·rw[ab ⟨hn,rfl⟩,e];simp
   ·rw[aa λa=>hn a.1]
    cases ho:ix S.W (x:Int)with
    |none=>rw[ho]at hn;exact absurd rfl hn
    |some o=>
     have h3:=ng o ho;rw[ho]at hn;have h4:¬c.length<o.length:=by simpa[tX]using hn
     have h5:¬o.length<c.length:=λaK=>by unfold aV at h3;rw[ab aK]at h3;omega
     have:=a z o z0 z1 P2 (by rw[e];exact ho)
     rw[show c.length=o.length by omega];exact this
  ·have:=a z w z0 z1 P2 hw
   split
   ·simp[this]
   ·exact this
theorem Mo.enc{D:Vd}(hD:jO D){S:Fd}(h:mc S) (hk:S.W.length=D.K.length){x c y:Nat}(hx:x<D.K.length) (hy:y<D.K.length) (hc:c<D.n.calls.toNat){wx wy:List Int}(d1:Dv D x wx) (d2:Dv D y wy):∀r:Nat,(r:Int)<=D.n.aq->Mo D S (Fd.enc D x c y wx wy S r)/\∀j:Nat,j<r->qP (Fd.enc D x c y wx wy S r) (D.bk x c y j) (wx++(c:Int)::(wy ++ [D.n.calls+D.n.aj+j]))
 |0,_=>⟨Mo.refl h,λj hj=>by omega⟩
 |r+1,hr=>by
  obtain⟨h1,h2⟩:=Mo.enc hD h hk hx hy hc d1 d2 r (by omega)
  have JR:∀j:Nat,(j:Int)<D.n.aq->Dv D (D.bk x c y j) (wx++(c:Int)::(wy ++ [D.n.calls+D.n.aj+j])):=λj hj=>.ak x c y j wx wy (by omega) (by omega) (by omega) hj d1 d2
  have hd:=JR r (by omega)
  have hb:=hd.fu hD;obtain⟨g1,g2⟩:=Mo.off (D:=D) h1.k.w (x:=(D.bk x c y r).toNat) (by rw[h1.k.l,hk];omega) (c:=wx++(c:Int)::(wy ++ [D.n.calls+D.n.aj+r])) (by rw[show(((D.bk x c y r).toNat:Nat):Int)=D.bk x c y r by omega];exact hd)
  rw[show(((D.bk x c y r).toNat:Nat):Int)=D.bk x c y r by omega]at g2
  refine⟨h1.trans g1,λj hj=>?_⟩
  by_cases e:j=r
  ·subst e;exact g2
  ·have TT:=(JR j (by omega)).fu hD
   exact g1.o _ _ TT.1 (by rw[h1.k.l,hk];exact TT.2) (h2 j (by omega))
theorem Mo.ei{D:Vd}(hD:jO D){S:Fd}(h:mc S) (hk:S.W.length=D.K.length){x:Nat}{wx:List Int}(d1:Dv D x wx):∀i:Nat,(i:Int)<=D.n.aj->Mo D S (Fd.ei D x wx S i)/\∀j:Nat,j<i->qP (Fd.ei D x wx S i) (D.im x j) (wx ++ [D.n.calls+j])
 |0,_=>⟨Mo.refl h,λj hj=>by omega⟩
 |i+1,hi=>by
  obtain⟨h1,h2⟩:=Mo.ei hD h hk d1 i (by omega)
  have JR:∀j:Nat,(j:Int)<D.n.aj->Dv D (D.im x j) (wx ++ [D.n.calls+j]):=λj hj=>.aQ x j wx (by omega) hj d1
  have hd:=JR i (by omega)
  have hb:=hd.fu hD;obtain⟨g1,g2⟩:=Mo.off (D:=D) h1.k.w (x:=(D.im x i).toNat) (by rw[h1.k.l,hk];omega) (c:=wx ++ [D.n.calls+i]) (by rw[show(((D.im x i).toNat:Nat):Int)=D.im x i by omega];exact hd)
  rw[show(((D.im x i).toNat:Nat):Int)=D.im x i by omega]at g2
  refine⟨h1.trans g1,λj hj=>?_⟩
  by_cases e:j=i
  ·subst e;exact g2
  ·have TT:=(JR j (by omega)).fu hD
   exact g1.o _ _ TT.1 (by rw[h1.k.l,hk];exact TT.2) (h2 j (by omega))
theorem Mo.ec{D:Vd}(hD:jO D){S:Fd}(h:mc S) (hk:S.W.length=D.K.length){x y:Nat}(hx:x<D.K.length) (hy:y<D.K.length){wx wy:List Int}(d1:Dv D x wx) (d2:Dv D y wy):∀c:Nat,c<=D.n.calls.toNat->Mo D S (Fd.ec D x y wx wy S c)/\∀j:Nat,j<c->∀r:Nat,(r:Int)<D.n.aq->qP (Fd.ec D x y wx wy S c) (D.bk x j y r) (wx++(j:Int)::(wy ++ [D.n.calls+D.n.aj+r]))/\qP (Fd.ec D x y wx wy S c) (D.bk y j x r) (wy++(j:Int)::(wx ++ [D.n.calls+D.n.aj+r]))
 |0,_=>⟨Mo.refl h,λj hj=>by omega⟩
 |c+1,hc=>by
  obtain⟨h1,h2⟩:=Mo.ec hD h hk hx hy d1 d2 c (by omega)
  have Ga:=hD.r;obtain⟨g1,g2⟩:=Mo.enc hD h1.k.w (by rw[h1.k.l,hk]) hx hy (show c<D.n.calls.toNat by omega) d1 d2 D.n.aq.toNat (by omega)
  have m1:=h1.trans g1;obtain⟨g3,g4⟩:=Mo.enc hD m1.k.w (by rw[m1.k.l,hk]) hy hx (show c<D.n.calls.toNat by omega) d2 d1 D.n.aq.toNat (by omega)
  refine⟨m1.trans g3,λj hj r hr=>?_⟩;have b1:=(Dv.ak x j y r wx wy (by omega) (by omega) (by omega) hr d1 d2).fu hD
  have b2:=(Dv.ak y j x r wy wx (by omega) (by omega) (by omega) hr d2 d1).fu hD
  by_cases e:j=c
  ·subst e
   exact⟨g3.o _ _ b1.1 (by rw[m1.k.l,hk];exact b1.2) (g2 r (by omega)),g4 r (by omega)⟩
  ·obtain⟨q1,q2⟩:=h2 j (by omega) r hr
   exact⟨g3.o _ _ b1.1 (by rw[m1.k.l,hk];exact b1.2) (g1.o _ _ b1.1 (by rw[h1.k.l,hk];exact b1.2) q1),g3.o _ _ b2.1 (by rw[m1.k.l,hk];exact b2.2) (g1.o _ _ b2.1 (by rw[h1.k.l,hk];exact b2.2) q2)⟩
theorem Mo.ed{D:Vd}(hD:jO D){S:Fd}(h:mc S) (hk:S.W.length=D.K.length){x:Nat}(hx:x<D.K.length){wx:List Int}(d1:Dv D x wx){wd:Int->List Int}{l:List Int}(hl:∀y∈l,(0<=y/\y<(D.K.length:Int))/\Dv D y (wd y)):∀k:Nat,k<=l.length->Mo D S (Fd.ed D x wx wd S l k)/\∀i:Nat,i<k->∀j:Nat,(j:Int)<D.n.calls->∀r:Nat,(r:Int)<D.n.aq->qP (Fd.ed D x wx wd S l k) (D.bk x j (ix l (i:Int)) r) (wx++(j:Int)::(wd (ix l (i:Int)) ++ [D.n.calls+D.n.aj+r]))/\qP (Fd.ed D x wx wd S l k) (D.bk (ix l (i:Int)) j x r) (wd (ix l (i:Int))++(j:Int)::(wx ++ [D.n.calls+D.n.aj+r]))
 |0,_=>⟨Mo.refl h,λj hj=>by omega⟩
 |k+1,nZ=>by
  obtain⟨h1,h2⟩:=Mo.ed hD h hk hx d1 hl k (by omega)
  have lI:=hD.c;obtain⟨hy,dy⟩:=hl _ (aZ (l:=l) (n:=(k:Int)) (by omega) (by omega))
  have ey:((((ix l (k:Int)).toNat):Nat):Int)=ix l (k:Int):=by omega
  obtain⟨g1,g2⟩:=Mo.ec hD h1.k.w (by rw[h1.k.l,hk]) hx (y:=(ix l (k:Int)).toNat) (by omega) d1 (wy:=wd (ix l (k:Int))) (by rw[ey];exact dy) D.n.calls.toNat (bw _)
  rw[ey]at g2;refine⟨h1.trans g1,λi hi j hj r hr=>?_⟩
  by_cases e:i=k
  ·subst e
   exact g2 j (by omega) r hr
  ·obtain⟨q1,q2⟩:=h2 i (by omega) j hj r hr
   have di:=(hl _ (aZ (l:=l) (n:=(i:Int)) (by omega) (by omega))).2
   have b1:=(Dv.ak x j (ix l (i:Int)) r wx _ (by omega) hj (by omega) hr d1 di).fu hD
   have b2:=(Dv.ak (ix l (i:Int)) j x r _ wx (by omega) hj (by omega) hr di d1).fu hD
   exact⟨g1.o _ _ b1.1 (by rw[h1.k.l,hk];exact b1.2) q1,g1.o _ _ b2.1 (by rw[h1.k.l,hk];exact b2.2) q2⟩
theorem Mo.ext{D:Vd}(hD:jO D){S:Fd}(h:mc S) (hk:S.W.length=D.K.length){x:Nat}(hx:x<D.K.length){wx:List Int}(tA:ix S.W (x:Int)=some wx) (d1:Dv D x wx) (hN:∀y∈S.N,(0<=y/\y<(D.K.length:Int))/\ix S.F y=true/\∃w,ix S.W y=some w/\Dv D y w) :
  Mo D S (Fd.ext D x S)/\(∀i:Int,0<=i->i<D.n.aj->qP (Fd.ext D x S) (D.im x i) (wx ++ [D.n.calls+i]))/\∀y∈S.N,∀wy,ix S.W y=some wy->∀c r:Int,0<=c->c<D.n.calls->0<=r->r<D.n.aq->qP (Fd.ext D x S) (D.bk x c y r) (wx++c::(wy ++ [D.n.calls+D.n.aj+r]))/\qP (Fd.ext D x S) (D.bk y c x r) (wy++c::(wx ++ [D.n.calls+D.n.aj+r])):=by
 have JP:Fd.ext D x S=Fd.ed D x wx (λy=>(ix S.W y).getD []) (Fd.ei D x wx S D.n.aj.toNat) S.N S.N.length:=by unfold Fd.ext;rw[tA];rfl
 rw[JP];have wz:=hD.n;obtain⟨h1,h2⟩:=Mo.ei hD h hk d1 D.n.aj.toNat (by omega)
 obtain⟨g1,g2⟩:=Mo.ed hD h1.k.w (by rw[h1.k.l,hk]) hx d1 (wd:=λy=>(ix S.W y).getD []) (l:=S.N) (λy hy=>by
  obtain⟨a,_,w,b,d⟩:=hN y hy;exact⟨a,by show Dv D y ((ix S.W y).getD []);rw[b];exact d⟩) S.N.length (bw _)
 refine⟨h1.trans g1,λi i0 i1=>?_,λy hy wy se c r c0 c1 r0 r1=>?_⟩
 ·have b:=(Dv.aQ x i wx i0 i1 d1).fu hD
  have:=h2 i.toNat (by omega)
  rw[show((i.toNat:Nat):Int)=i by omega]at this
  exact g1.o _ _ b.1 (by rw[h1.k.l,hk];exact b.2) this
 ·obtain⟨k,nZ,rfl⟩:=fJ.1 hy
  have e:=aS nZ;have:=g2 k nZ c.toNat (by omega) r.toNat (by omega)
  rw[show((c.toNat:Nat):Int)=c by omega,show((r.toNat:Nat):Int)=r by omega,e]at this
  rw[se]at this;exact this
end Ab
