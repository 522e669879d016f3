/- First words: extend, the program. First words: the order of the search. First words: the first word is there. First words: what offers do to the search. Condition: none. -/
import Derived.Test.YtdenhmniigikcaaGreatN44U
set_option linter.all false
set_option maxRecDepth 100000
set_option maxHeartbeats 4000000
namespace Ab
theorem ane (D:Vd) (hD:jQ D) (S:Fd){p:Tf->Nat}{σ:List ag}(h:FS S D.vcs.av p σ) (hF:mf S) (hk:S.W.length=D.K.length){x:Nat}(hx:x<D.K.length) (f1:ix S.F (x:Int)=true) (hN0:S.N ≠ []) (hNl:S.N.length<=1000)
  (GL:∃wx,ix S.W (x:Int)=some wx) (hN:∀y∈S.N,(0<=y/\y<(D.K.length:Int))/\ix S.F y=true/\∃w,ix S.W y=some w) :
  LX L EE [.ptr (p .f) 5 0,.int x] σ (λr τ=>r = .bS []/\∃p', PE p p' /\FS (Fd.ext D x S) D.vcs.av p' τ):=by
 refine ai2 rfl ?_;obtain⟨wx,tE⟩:=GL;have hv:=h.has .f _ rfl;have eZ:=hD.inl x hx;have AY:=hD.f.i;have lL:=hD.c;have wE:=hD.n;have x1:=bH (show(x:Int)<(D.IN.length:Int)by omega)
 have wl1:=hF.wl x wx (by omega) (by omega) tE
 have Kr:Fd.ext D x S=Fd.ed D x wx (λy=>(ix S.W y).getD []) (Fd.ei D x wx S D.n.aj.toNat) S.N S.N.length:=by unfold Fd.ext;rw[tE];rfl
 rw[Kr];simp[-ao,hv,x1];refine bu (λq:Nat×(Tf->Nat)×List ag=>[(3,.int q.1)]) (λq=>q.2.2) (λq=>q.1<=D.n.aj.toNat/\PE p q.2.1/\FS (Fd.ei D x wx S q.1) D.vcs.av q.2.1 q.2.2) (λq=>D.n.aj.toNat-q.1) (0,p,σ) (by simp[bY]) ⟨by simp,⟨rfl,rfl⟩,h⟩ ?_
 rintro⟨i,p1,qj⟩ ⟨i0,jD,hS⟩;dsimp only at i0 jD hS ⊢;have K1:=Kp.ei hD hF hk hx wx i i0;have dQ:=hS.has .f _ rfl;have Kq:=hS.has .wo _ rfl;rw[jD.1]at dQ
 by_cases hi:i<D.n.aj.toNat
 ·have Xl:=bH (show(i:Int)<((ix D.IN (x:Int)).length:Int)by omega)
  have Xm:=bH (show i<(ix D.IN (x:Int)).length by omega)
  have Xh:0<=D.im x i/\D.im x i<(D.K.length:Int):=eZ.2 _ (aU (by omega) (by omega))
  have g1:=K1.k x (by omega) f1
  rw[tE]at g1;have Aj:cv [(true,some wx),(false,some [D.n.calls+i])]=wx ++ [D.n.calls+i]:=by simp[cv]
  have hO:=Kk (Fd.ei D x wx S i) hS K1.w.ok (x:=(D.im x i).toNat) (by rw[K1.l];omega) [(true,some wx),(false,some [D.n.calls+i])] (by rw[Aj];simp;omega) (by simp) (λo ho=>K1.w.wl _ _ (by omega) (by rw[K1.l];omega) ho) false
  obtain⟨rv,τ,hO,rfl,p2,nV,iI⟩:=dS hO;rw[Aj]at iI;rw[jD.1]at hO;have nV:PE p p2:=⟨nV.1.trans jD.1,nV.2.trans jD.2⟩;have qS:((D.im x i).toNat:Int)=ix (ix D.IN (x:Int)) (i:Int):=by
   have:D.im x i=ix (ix D.IN (x:Int)) (i:Int):=rfl;omega
  rw[qS]at hO;have lx:=bH (show(x:Int)<((Fd.ei D x wx S i).W.length:Int)by rw[K1.l];omega)
  have lx2:=bH (show x<(Fd.ei D x wx S i).W.length by rw[K1.l];omega)
  simp only[List.map_cons,List.map_nil,xb]at hO;simp[-ao,Xl,Xm,dQ,Kq,lx,lx2,g1,oz,hO];exact⟨by omega,by omega,aX (i+1,p2,τ) (by simp) rfl ⟨by dsimp only;omega,nV,iI⟩ (by dsimp only;omega)⟩
 ·have Xl:=gl (show ¬(i:Int)<((ix D.IN (x:Int)).length:Int)by omega)
  have Xm:=gl (show ¬i<(ix D.IN (x:Int)).length by omega)
  have ei:i=D.n.aj.toNat:=by omega
  rw[<-ei];have rS:=hS.has .dn _ (ab (by rw[K1.n];exact hN0))
  have e6:cT (p1 .dn) (Fd.ei D x wx S i).N.length = .sl (p1 .dn) S.N.length 0 S.N.length:=by
   rw[K1.n];exact ab λe=>hN0 (dW e)
  simp[-ao,Xl,Xm,dQ,e6];have hNr:∀y∈S.N,0<=y/\y<(D.K.length:Int):=λy hy=>(hN y hy).1;have L6:(Fd.ei D x wx S i).W.length=D.K.length:=by rw[K1.l,hk]
  refine bu (λq:Nat×(Tf->Nat)×List ag=>[(8,.int q.1)]) (λq=>q.2.2) (λq=>q.1<=S.N.length/\PE p1 q.2.1/\FS (Fd.ed D x wx (λy=>(ix S.W y).getD []) (Fd.ei D x wx S i) S.N q.1) D.vcs.av q.2.1 q.2.2) (λq=>S.N.length-q.1) (0,p1,qj) (by simp[bY]) ⟨by simp,⟨rfl,rfl⟩,hS⟩ ?_
  rintro⟨k,p2,pR⟩ ⟨k0,nV,iI⟩;dsimp only at k0 nV iI ⊢;have K2:=K1.trans (Kp.ed hD K1.w L6 hx wx (λy=>(ix S.W y).getD []) hNr k k0)
  by_cases oq:k<S.N.length
  ·have hy:=hN _ (aU (l:=S.N) (n:=(k:Int)) (by omega) (by omega))
   obtain⟨⟨y0,y1⟩,yf,wy,si⟩:=hy;have Uq:=iI.has .dn _ (ab (by rw[K2.n];exact hN0))
   rw[nV.2,K2.n]at Uq;simp[-ao,oq,Uq];have hed:Fd.ed D x wx (λy=>(ix S.W y).getD []) (Fd.ei D x wx S i) S.N (k+1)=Fd.ec D x (ix S.N (k:Int)).toNat wx wy (Fd.ed D x wx (λy=>(ix S.W y).getD []) (Fd.ei D x wx S i) S.N k) D.n.calls.toNat:=by
    show Fd.ec D x (ix S.N (k:Int)).toNat wx ((ix S.W (ix S.N (k:Int))).getD []) _ _=_;rw[si];rfl
   obtain⟨y,JX⟩:∃y:Nat,ix S.N (k:Int)=y:=⟨(ix S.N (k:Int)).toNat,by omega⟩
   rw[JX]at y0 y1 yf si hed;rw[JX];rw[kG]at hed;have Xn:y<D.K.length:=by omega
   generalize hSk:Fd.ed D x wx (λy=>(ix S.W y).getD []) (Fd.ei D x wx S i) S.N k=Sk at *;have vj:Sk.W.length=D.K.length:=by rw[K2.l,hk]
   refine bu (λq:Nat×(Tf->Nat)×List ag=>[(11,.int q.1)]) (λq=>q.2.2) (λq=>q.1<=D.n.calls.toNat/\PE p q.2.1/\FS (Fd.ec D x y wx wy Sk q.1) D.vcs.av q.2.1 q.2.2) (λq=>D.n.calls.toNat-q.1) (0,p2,pR) (by simp[bY]) ⟨by simp,⟨nV.1.trans jD.1,nV.2.trans jD.2⟩,iI⟩ ?_
   rintro⟨c,p3,xU⟩ ⟨c0,mN,mq⟩;dsimp only at c0 mN mq ⊢;have K3:=Kp.ec hD K2.w vj hx Xn wx wy c c0;have K4:=K2.trans K3
   by_cases hc:c<D.n.calls.toNat
   ·have ga :=bH (show(c:Int)<D.n.calls by omega)
    have hk4:(Fd.ec D x y wx wy Sk c).W.length=D.K.length:=by rw[K4.l,hk]
    have Xo:=Up D hD (Fd.ec D x y wx wy Sk c) mq K4.w hk4 hx Xn hc (wx:=wx) (wy:=wy) (by rw[K4.k _ (by omega) f1];exact tE) (by rw[K4.k _ (by omega) yf];exact si) (by rw[K4.f];exact f1) (by rw[K4.f];exact yf)
    obtain⟨r1,gr,Xo,rfl,p4,w7,Fh⟩:=dS Xo;have K5:=K4.trans (Kp.enc hD K4.w hk4 hx Xn hc wx wy);have Xp:=Up D hD _ Fh K5.w (by rw[K5.l,hk]) Xn hx hc (wx:=wy) (wy:=wx) (by rw[K5.k _ (by omega) yf];exact si) (by rw[K5.k _ (by omega) f1];exact tE) (by rw[K5.f];exact yf) (by rw[K5.f];exact f1)
    obtain⟨r2,Bb,Xp,rfl,p5,GZ,Ks⟩:=dS Xp;rw[mN.1]at Xo;rw[w7.1,mN.1]at Xp;simp[-ao,ga, Xo,Xp];exact⟨by omega,aX (c+1,p5,Bb) (by simp) rfl ⟨by dsimp only;omega,⟨GZ.1.trans (w7.1.trans mN.1),GZ.2.trans (w7.2.trans mN.2)⟩,Ks⟩ (by dsimp only;omega)⟩
   ·have ga :=gl (show ¬(c:Int)<D.n.calls by omega)
    have ec:c=D.n.calls.toNat:=by omega
    simp[-ao,ga];refine⟨by omega,aX (k+1,p3,xU) (by simp) rfl ⟨by dsimp only;omega,⟨mN.1.trans jD.1.symm,mN.2.trans jD.2.symm⟩,?_⟩ (by dsimp only;omega)⟩
    dsimp only;rw[hed,<-ec];exact mq
  ·have ek:k=S.N.length:=by omega
   subst ek;simp[-ao];exact⟨p2,⟨nV.1.trans jD.1,nV.2.trans jD.2⟩,iI⟩
inductive Dv (D:Vd):Int->List Int->Prop
 |nil:Dv D 0 []
 |aR (x i:Int) (w:List Int):0<=i->i<D.n.aj->Dv D x w->Dv D (D.im x i) (w ++ [D.n.calls+i])
 |al (x c y r:Int) (w u:List Int):0<=c->c<D.n.calls->0<=r->r<D.n.aq->Dv D x w->Dv D y u->Dv D (D.bk x c y r) (w++c::(u ++ [D.n.calls+D.n.aj+r]))
theorem Dv.fx{D:Vd}(h:jQ D){x:Int}{w:List Int}(hd:Dv D x w):0<=x/\x<(D.K.length:Int):=by
 induction hd with
 |nil=>have:=h.k;omega
 |aR x i w i0 i1 _ ih=>
  have:=h.inl x.toNat (by omega)
  rw[show((x.toNat:Nat):Int)=x by omega]at this
  have hn:=h.n;exact this.2 _ (aU i0 (by omega))
 |al x c y r w u c0 c1 r0 r1 _ _ lZ mM=>
  have:=h.rQ x.toNat c.toNat y.toNat (by omega) (by omega) (by omega)
  unfold Vd.bX Vd.row at this;rw[show((x.toNat:Nat):Int)=x by omega,show((c.toNat:Nat):Int)=c by omega,show((y.toNat:Nat):Int)=y by omega]at this
  have hr:=h.r;exact this.2 _ (aU r0 (by omega))
def kS (D:Vd) (x:Int) (w:List Int):Prop:=Dv D x w/\∀v,Dv D x v->aW w v<=0
structure arx (D:Vd) (n:Nat) (S:Fd):Prop where
 w:mf S
 l:S.W.length=D.K.length
 dv:∀x w,0<=x->x<(D.K.length:Int)->ix S.W x=some w->Dv D x w
 fd:∀x,0<=x->x<(D.K.length:Int)->(ix S.F x=true↔∃w,kS D x w/\w.length<n)
 lw:∀x w,kS D x w->w.length<n->w.length<=1024->ix S.W x=some w
theorem Ur:∀{t u v:List Int},aW u v<0->aW (u++t) (v++t)<0
 | [],u,v,h=>by simpa using h
 |a::t,u,v,h=>by
  have:=Ur (t:=t) (E7 (a:=a) (b:=a) h);simpa using this
theorem anf{w u v:List Int}(h:aW u v<0):aW (w++u) (w++v)<0:=by
 unfold aW at h ⊢;simp only[bz]
 by_cases h1:u.length<v.length
 ·rw[ae (by omega)];omega
 ·rw[ab h1]at h
  by_cases h2:v.length<u.length
  ·rw[ae h2]at h;omega
  ·rw[ab h2]at h
   rw[ab (by omega),ab (by omega),E6 rfl,yG,ae rfl]
   exact h
theorem kS.aR{D:Vd}{x i:Int}{w:List Int}(i0:0<=i) (i1:i<D.n.aj) (hd:Dv D x w) (h:kS D (D.im x i) (w ++ [D.n.calls+i])):kS D x w:=
 ⟨hd,λv hv=>eU λhn=>by
  have h1:=h.2 _ (.aR x i v i0 i1 hv);have h2:aW v w<0:=by have:=dK.gJ v w;omega
  have h3:=E7 (a:=D.n.calls+i) (b:=D.n.calls+i) h2;have:=dK.gJ (v ++ [D.n.calls+i]) (w ++ [D.n.calls+i]);omega⟩
theorem kS.al{D:Vd}{x c y r:Int}{w u:List Int}(c0:0<=c) (c1:c<D.n.calls) (r0:0<=r) (r1:r<D.n.aq) (hd:Dv D x w) (hu:Dv D y u) (h:kS D (D.bk x c y r) (w++c::(u ++ [D.n.calls+D.n.aj+r]))):kS D x w/\kS D y u:=by
 refine⟨⟨hd,λv hv=>eU λhn=>?_⟩,⟨hu,λv hv=>eU λhn=>?_⟩⟩
 ·have h1:=h.2 _ (.al x c y r v u c0 c1 r0 r1 hv hu)
  have h2:aW v w<0:=by have:=dK.gJ v w;omega
  have h3:=Ur (t:=c::(u ++ [D.n.calls+D.n.aj+r])) h2;have:=dK.gJ (v++c::(u ++ [D.n.calls+D.n.aj+r])) (w++c::(u ++ [D.n.calls+D.n.aj+r]));omega
 ·have h1:=h.2 _ (.al x c y r w v c0 c1 r0 r1 hd hv)
  have h2:aW v u<0:=by have:=dK.gJ v u;omega
  have h3:=anf (w:=w ++ [c]) (E7 (a:=D.n.calls+D.n.aj+r) (b:=D.n.calls+D.n.aj+r) h2);rw[iW,iW]at h3;have h3:aW (w++c::(v ++ [D.n.calls+D.n.aj+r])) (w++c::(u ++ [D.n.calls+D.n.aj+r]))<0:=h3;have:=dK.gJ (w++c::(v ++ [D.n.calls+D.n.aj+r])) (w++c::(u ++ [D.n.calls+D.n.aj+r]));omega
theorem kS.made{D:Vd}{z:Int}{t:List Int}(h:kS D z t):(z=0/\t=[])\/(∃x i w,0<=i/\i<D.n.aj/\kS D x w/\z=D.im x i/\t=w ++ [D.n.calls+i])\/(∃x c y r w u,0<=c/\c<D.n.calls/\0<=r/\r<D.n.aq/\kS D x w/\kS D y u/\z=D.bk x c y r/\t=w++c::(u ++ [D.n.calls+D.n.aj+r])):=by
 cases h.1 with
 |nil=>exact .inl ⟨rfl,rfl⟩
 |aR x i w i0 i1 hd=>exact .inr (.inl ⟨x,i,w,i0,i1,kS.aR i0 i1 hd h,rfl,rfl⟩)
 |al x c y r w u c0 c1 r0 r1 hd hu=>
  have:=kS.al c0 c1 r0 r1 hd hu h;exact .inr (.inr ⟨x,c,y,r,w,u,c0,c1,r0,r1,this.1,this.2,rfl,rfl⟩)
theorem kS.qt{D:Vd}{z:Int}{t s:List Int}(h:kS D z t) (g:kS D z s):t=s:=by
 have h1:=h.2 _ g.1;have h2:=g.2 _ h.1;have:=dK.gJ t s;exact dK.eq t s (by omega)
theorem Dv.sym{D:Vd}(h:jQ D){x:Int}{w:List Int}(hd:Dv D x w):∀a∈w,0<=a/\a<D.n.calls+D.n.aj+D.n.aq:=by
 have hc:=h.c;have hn:=h.n;have hr:=h.r
 induction hd with
 |nil=>simp
 |aR x i w i0 i1 _ ih=>
  intro a ha;rcases eH.1 ha with ha|ha
  ·exact ih a ha
  ·simp at ha;omega
 |al x c y r w u c0 c1 r0 r1 _ _ lZ mM=>
  intro a ha;simp only[eH,cD,List.not_mem_nil,or_false]at ha;rcases ha with ha|rfl|ha|rfl
  ·exact lZ a ha
  ·omega
  ·exact mM a ha
  ·omega
def qT (S:Fd) (z:Int) (t:List Int):Prop:=1024<t.length\/ix S.F z=true\/∃v,ix S.W z=some v/\aW v t<=0
structure Mo (D:Vd) (S T:Fd):Prop where
 k:Kp S T
 o:∀z t,0<=z->z<(S.W.length:Int)->qT S z t->qT T z t
 dv:(∀z w,0<=z->z<(S.W.length:Int)->ix S.W z=some w->Dv D z w)->∀z w,0<=z->z<(S.W.length:Int)->ix T.W z=some w->Dv D z w
 bk:(∀z w,0<=z->z<(S.W.length:Int)->ix S.F z=false->ix S.W z=some w->z∈S.dN w.length)->∀z w,0<=z->z<(S.W.length:Int)->ix T.F z=false->ix T.W z=some w->z∈T.dN w.length
theorem Mo.refl{D:Vd}{S:Fd}(h:mf S):Mo D S S:=⟨Kp.refl h,λ_ _ _ _ h=>h,λh=>h,λh=>h⟩
theorem Mo.trans{D:Vd}{S T U:Fd}(h:Mo D S T) (g:Mo D T U):Mo D S U:=by
 have e:=h.k.l;exact⟨h.k.trans g.k,λz t z0 z1 a=>g.o z t z0 (by rw[e];exact z1) (h.o z t z0 z1 a),λa z w z0 z1=>g.dv (λz w z0 z1=>h.dv a z w z0 (by rw[<-e];exact z1)) z w z0 (by rw[e];exact z1),λa z w z0 z1=>g.bk (λz w z0 z1=>h.bk a z w z0 (by rw[<-e];exact z1)) z w z0 (by rw[e];exact z1)⟩
theorem Us{S:Fd}(h:mf S){x:Nat}{c:List Int}(hc:c.length<=1024) (hf:ix S.F (x:Int)=false) (nq:∀w,ix S.W (x:Int)=some w->0<aW w c):(S.off x c).W=S.W.set x (some c)/\∀m,(S.off x c).dN m=if ub (ix S.W (x:Int)) c=true/\m=c.length then S.dN m ++ [(x:Int)]else S.dN m:=by
 have e:=Kj rfl nq hc hf;have iC:c.length<S.R.length:=by rw[h.r];omega
 by_cases hn:ub (ix S.W (x:Int)) c=true
 ·rw[ae hn]at e
  rw[e];refine⟨rfl,λm=>?_⟩;have:=Ag (S:={S with W:=S.W.set x (some c)}) (l:=S.dN c.length ++ [(x:Int)]) iC m
  rw[show Fd.dN (Fd.pC {S with W:=S.W.set x (some c)} c.length x) m=if m=c.length then S.dN c.length ++ [(x:Int)]else S.dN m from this]
  by_cases em:m=c.length
  ·rw[ae em,ae ⟨hn,em⟩,em]
  ·rw[ab em,ab λa=>em a.2]
 ·rw[ab hn]at e
  rw[e];exact⟨rfl,λm=>by rw[ab λa=>hn a.1];rfl⟩
theorem Mo.off{D:Vd}{S:Fd}(h:mf S){x:Nat}(hx:x<S.W.length){c:List Int}(hd:Dv D x c):Mo D S (S.off x c)/\qT (S.off x c) x c:=by
 by_cases h1:1024<c.length\/ix S.F (x:Int)=true
 ·have e:S.off x c=S:=ae h1
  rw[e];exact⟨Mo.refl h,h1.imp id λa=>.inl a⟩
 have hc:c.length<=1024:=by omega
 have hf:ix S.F (x:Int)=false:=by
  cases e:ix S.F (x:Int)with
  |false=>rfl
  |true=>exact absurd (.inr e) h1
 by_cases h2:∃w,ix S.W (x:Int)=some w/\aW w c<=0
 ·have e:S.off x c=S:=by
   obtain⟨w,hw,hle⟩:=h2;unfold Fd.off;rw[ab h1,hw];exact ae hle
  rw[e];exact⟨Mo.refl h,.inr (.inr h2)⟩
 have nq:∀w,ix S.W (x:Int)=some w->0<aW w c:=λw hw=>eU λhn=>h2 ⟨w,hw,by omega⟩
 obtain⟨eW,eB⟩:=Us h hc hf nq;have eF:=(Kn (S:=S) (x:=x) (c:=c)).2.1;have k:=Kp.off h hx c;have Xq:∀z:Int,0<=z->ix (S.off x c).W z=if z=x then some c else ix S.W z:=λz z0=>by rw[eW,rR hx z0]
 refine⟨⟨k,λz t z0 z1 a=>?_,λa z w z0 z1 hw=>?_,λa z w z0 z1 QF hw=>?_⟩,.inr (.inr ⟨c,by rw[Xq _ (by omega),ae rfl],Int.le_of_eq (dK.refl _)⟩)⟩
 ·rcases a with a|a|⟨v,a,b⟩
  ·exact .inl a
  ·exact .inr (.inl (by rw[eF];exact a))
  ·refine .inr (.inr ?_)
   rw[Xq z z0]
   by_cases e:z=x
   ·subst e
    rw[ae rfl];have h3:=nq v a;have h4:=dK.gJ c v;exact⟨c,rfl,dK.trans c v t (by omega) b⟩
   ·rw[ab e]
    exact⟨v,a,b⟩
 ·rw[Xq z z0]at hw
  split at hw
  ·rename_i e
   injection hw with hw
   rw[e,<-hw];exact hd
  ·exact a z w z0 z1 hw
 ·rw[eF]at QF
  rw[Xq z z0]at hw;rw[eB];split at hw
  ·rename_i e
   injection hw with hw
   subst hw
   by_cases hn:ub (ix S.W (x:Int)) c=true
   ·rw[ae ⟨hn,rfl⟩,e];simp
   ·rw[ab λa=>hn a.1]
    cases ho:ix S.W (x:Int)with
    |none=>rw[ho]at hn;exact absurd rfl hn
    |some o=>
     have h3:=nq o ho;rw[ho]at hn;have h4:¬c.length<o.length:=by simpa[ub]using hn
     have h5:¬o.length<c.length:=λaK=>by unfold aW at h3;rw[ae aK]at h3;omega
     have:=a z o z0 z1 QF (by rw[e];exact ho)
     rw[show c.length=o.length by omega];exact this
  ·have:=a z w z0 z1 QF hw
   split
   ·simp[this]
   ·exact this
theorem Mo.enc{D:Vd}(hD:jQ D){S:Fd}(h:mf S) (hk:S.W.length=D.K.length){x c y:Nat}(hx:x<D.K.length) (hy:y<D.K.length) (hc:c<D.n.calls.toNat){wx wy:List Int}(d1:Dv D x wx) (d2:Dv D y wy):∀r:Nat,(r:Int)<=D.n.aq->Mo D S (Fd.enc D x c y wx wy S r)/\∀j:Nat,j<r->qT (Fd.enc D x c y wx wy S r) (D.bk x c y j) (wx++(c:Int)::(wy ++ [D.n.calls+D.n.aj+j]))
 |0,_=>⟨Mo.refl h,λj hj=>by omega⟩
 |r+1,hr=>by
  obtain⟨h1,h2⟩:=Mo.enc hD h hk hx hy hc d1 d2 r (by omega)
  have Kt:∀j:Nat,(j:Int)<D.n.aq->Dv D (D.bk x c y j) (wx++(c:Int)::(wy ++ [D.n.calls+D.n.aj+j])):=λj hj=>.al x c y j wx wy (by omega) (by omega) (by omega) hj d1 d2
  have hd:=Kt r (by omega)
  have hb:=hd.fx hD;obtain⟨g1,g2⟩:=Mo.off (D:=D) h1.k.w (x:=(D.bk x c y r).toNat) (by rw[h1.k.l,hk];omega) (c:=wx++(c:Int)::(wy ++ [D.n.calls+D.n.aj+r])) (by rw[show(((D.bk x c y r).toNat:Nat):Int)=D.bk x c y r by omega];exact hd)
  rw[show(((D.bk x c y r).toNat:Nat):Int)=D.bk x c y r by omega]at g2
  refine⟨h1.trans g1,λj hj=>?_⟩
  by_cases e:j=r
  ·subst e;exact g2
  ·have Ut:=(Kt j (by omega)).fx hD
   exact g1.o _ _ Ut.1 (by rw[h1.k.l,hk];exact Ut.2) (h2 j (by omega))
theorem Mo.ei{D:Vd}(hD:jQ D){S:Fd}(h:mf S) (hk:S.W.length=D.K.length){x:Nat}{wx:List Int}(d1:Dv D x wx):∀i:Nat,(i:Int)<=D.n.aj->Mo D S (Fd.ei D x wx S i)/\∀j:Nat,j<i->qT (Fd.ei D x wx S i) (D.im x j) (wx ++ [D.n.calls+j])
 |0,_=>⟨Mo.refl h,λj hj=>by omega⟩
 |i+1,hi=>by
  obtain⟨h1,h2⟩:=Mo.ei hD h hk d1 i (by omega)
  have Kt:∀j:Nat,(j:Int)<D.n.aj->Dv D (D.im x j) (wx ++ [D.n.calls+j]):=λj hj=>.aR x j wx (by omega) hj d1
  have hd:=Kt i (by omega)
  have hb:=hd.fx hD;obtain⟨g1,g2⟩:=Mo.off (D:=D) h1.k.w (x:=(D.im x i).toNat) (by rw[h1.k.l,hk];omega) (c:=wx ++ [D.n.calls+i]) (by rw[show(((D.im x i).toNat:Nat):Int)=D.im x i by omega];exact hd)
  rw[show(((D.im x i).toNat:Nat):Int)=D.im x i by omega]at g2
  refine⟨h1.trans g1,λj hj=>?_⟩
  by_cases e:j=i
  ·subst e;exact g2
  ·have Ut:=(Kt j (by omega)).fx hD
   exact g1.o _ _ Ut.1 (by rw[h1.k.l,hk];exact Ut.2) (h2 j (by omega))
theorem Mo.ec{D:Vd}(hD:jQ D){S:Fd}(h:mf S) (hk:S.W.length=D.K.length){x y:Nat}(hx:x<D.K.length) (hy:y<D.K.length){wx wy:List Int}(d1:Dv D x wx) (d2:Dv D y wy):∀c:Nat,c<=D.n.calls.toNat->Mo D S (Fd.ec D x y wx wy S c)/\∀j:Nat,j<c->∀r:Nat,(r:Int)<D.n.aq->qT (Fd.ec D x y wx wy S c) (D.bk x j y r) (wx++(j:Int)::(wy ++ [D.n.calls+D.n.aj+r]))/\qT (Fd.ec D x y wx wy S c) (D.bk y j x r) (wy++(j:Int)::(wx ++ [D.n.calls+D.n.aj+r]))
 |0,_=>⟨Mo.refl h,λj hj=>by omega⟩
 |c+1,hc=>by
  obtain⟨h1,h2⟩:=Mo.ec hD h hk hx hy d1 d2 c (by omega)
  have GH:=hD.r;obtain⟨g1,g2⟩:=Mo.enc hD h1.k.w (by rw[h1.k.l,hk]) hx hy (show c<D.n.calls.toNat by omega) d1 d2 D.n.aq.toNat (by omega)
  have m1:=h1.trans g1;obtain⟨g3,g4⟩:=Mo.enc hD m1.k.w (by rw[m1.k.l,hk]) hy hx (show c<D.n.calls.toNat by omega) d2 d1 D.n.aq.toNat (by omega)
  refine⟨m1.trans g3,λj hj r hr=>?_⟩;have b1:=(Dv.al x j y r wx wy (by omega) (by omega) (by omega) hr d1 d2).fx hD
  have b2:=(Dv.al y j x r wy wx (by omega) (by omega) (by omega) hr d2 d1).fx hD
  by_cases e:j=c
  ·subst e
   exact⟨g3.o _ _ b1.1 (by rw[m1.k.l,hk];exact b1.2) (g2 r (by omega)),g4 r (by omega)⟩
  ·obtain⟨q1,q2⟩:=h2 j (by omega) r hr
   exact⟨g3.o _ _ b1.1 (by rw[m1.k.l,hk];exact b1.2) (g1.o _ _ b1.1 (by rw[h1.k.l,hk];exact b1.2) q1),g3.o _ _ b2.1 (by rw[m1.k.l,hk];exact b2.2) (g1.o _ _ b2.1 (by rw[h1.k.l,hk];exact b2.2) q2)⟩
theorem Mo.ed{D:Vd}(hD:jQ D){S:Fd}(h:mf S) (hk:S.W.length=D.K.length){x:Nat}(hx:x<D.K.length){wx:List Int}(d1:Dv D x wx){wd:Int->List Int}{l:List Int}(hl:∀y∈l,(0<=y/\y<(D.K.length:Int))/\Dv D y (wd y)):∀k:Nat,k<=l.length->Mo D S (Fd.ed D x wx wd S l k)/\∀i:Nat,i<k->∀j:Nat,(j:Int)<D.n.calls->∀r:Nat,(r:Int)<D.n.aq->qT (Fd.ed D x wx wd S l k) (D.bk x j (ix l (i:Int)) r) (wx++(j:Int)::(wd (ix l (i:Int)) ++ [D.n.calls+D.n.aj+r]))/\qT (Fd.ed D x wx wd S l k) (D.bk (ix l (i:Int)) j x r) (wd (ix l (i:Int))++(j:Int)::(wx ++ [D.n.calls+D.n.aj+r]))
 |0,_=>⟨Mo.refl h,λj hj=>by omega⟩
 |k+1,oq=>by
  obtain⟨h1,h2⟩:=Mo.ed hD h hk hx d1 hl k (by omega)
  have lL:=hD.c;obtain⟨hy,dy⟩:=hl _ (aU (l:=l) (n:=(k:Int)) (by omega) (by omega))
  have ey:((((ix l (k:Int)).toNat):Nat):Int)=ix l (k:Int):=by omega
  obtain⟨g1,g2⟩:=Mo.ec hD h1.k.w (by rw[h1.k.l,hk]) hx (y:=(ix l (k:Int)).toNat) (by omega) d1 (wy:=wd (ix l (k:Int))) (by rw[ey];exact dy) D.n.calls.toNat (bA _)
  rw[ey]at g2;refine⟨h1.trans g1,λi hi j hj r hr=>?_⟩
  by_cases e:i=k
  ·subst e
   exact g2 j (by omega) r hr
  ·obtain⟨q1,q2⟩:=h2 i (by omega) j hj r hr
   have di:=(hl _ (aU (l:=l) (n:=(i:Int)) (by omega) (by omega))).2
   have b1:=(Dv.al x j (ix l (i:Int)) r wx _ (by omega) hj (by omega) hr d1 di).fx hD
   have b2:=(Dv.al (ix l (i:Int)) j x r _ wx (by omega) hj (by omega) hr di d1).fx hD
   exact⟨g1.o _ _ b1.1 (by rw[h1.k.l,hk];exact b1.2) q1,g1.o _ _ b2.1 (by rw[h1.k.l,hk];exact b2.2) q2⟩
theorem Mo.ext{D:Vd}(hD:jQ D){S:Fd}(h:mf S) (hk:S.W.length=D.K.length){x:Nat}(hx:x<D.K.length){wx:List Int}(tE:ix S.W (x:Int)=some wx) (d1:Dv D x wx) (hN:∀y∈S.N,(0<=y/\y<(D.K.length:Int))/\ix S.F y=true/\∃w,ix S.W y=some w/\Dv D y w) :
  Mo D S (Fd.ext D x S)/\(∀i:Int,0<=i->i<D.n.aj->qT (Fd.ext D x S) (D.im x i) (wx ++ [D.n.calls+i]))/\∀y∈S.N,∀wy,ix S.W y=some wy->∀c r:Int,0<=c->c<D.n.calls->0<=r->r<D.n.aq->qT (Fd.ext D x S) (D.bk x c y r) (wx++c::(wy ++ [D.n.calls+D.n.aj+r]))/\qT (Fd.ext D x S) (D.bk y c x r) (wy++c::(wx ++ [D.n.calls+D.n.aj+r])):=by
 have Kr:Fd.ext D x S=Fd.ed D x wx (λy=>(ix S.W y).getD []) (Fd.ei D x wx S D.n.aj.toNat) S.N S.N.length:=by unfold Fd.ext;rw[tE];rfl
 rw[Kr];have wE:=hD.n;obtain⟨h1,h2⟩:=Mo.ei hD h hk d1 D.n.aj.toNat (by omega)
 obtain⟨g1,g2⟩:=Mo.ed hD h1.k.w (by rw[h1.k.l,hk]) hx d1 (wd:=λy=>(ix S.W y).getD []) (l:=S.N) (λy hy=>by
  obtain⟨a,_,w,b,d⟩:=hN y hy;exact⟨a,by show Dv D y ((ix S.W y).getD []);rw[b];exact d⟩) S.N.length (bA _)
 refine⟨h1.trans g1,λi i0 i1=>?_,λy hy wy si c r c0 c1 r0 r1=>?_⟩
 ·have b:=(Dv.aR x i wx i0 i1 d1).fx hD
  have:=h2 i.toNat (by omega)
  rw[show((i.toNat:Nat):Int)=i by omega]at this
  exact g1.o _ _ b.1 (by rw[h1.k.l,hk];exact b.2) this
 ·obtain⟨k,oq,rfl⟩:=fM.1 hy
  have e:=aT oq;have:=g2 k oq c.toNat (by omega) r.toNat (by omega)
  rw[show((c.toNat:Nat):Int)=c by omega,show((r.toNat:Nat):Int)=r by omega,e]at this
  rw[si]at this;exact this
end Ab
