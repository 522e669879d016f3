/- The single-entry automaton of classes: the program; and what it leans on. Condition: none. -/
import Derived.Test.YtdenhmniigikcaaGreatS44F
set_option linter.all false
set_option maxRecDepth 100000
set_option maxHeartbeats 4000000
namespace Ab
structure qQ (D:Vd) (l:List eO) (st:List Int) (b:Nat) (A:ao) (σ:List ag):Prop where
 m:AS A (λt=>fp (D.n.aA l.length) t+2) σ
 b:ak σ b=some ⟨some 10,[.int D.n.calls,.int D.n.aj,.int D.n.aq,.int ((D.n.aA l.length:Nat):Int),.int 0,.sl 3 l.length 0 l.length,.sl (6+D.n.aA l.length+2) l.length 0 l.length,.sl (7+D.n.aA l.length+2) l.length 0 l.length,.sl (9+D.n.aA l.length+2) l.length 0 l.length,.sl (10+D.n.aA l.length+2) l.length 0 l.length],.live⟩
 s:ak σ 1=some (Zb st)
 z:ak σ 0=some ⟨some 10,[.int 0,.int 0,.int 0,.int 0,.int 0,.ah,.ah,.ah,.ah,.ah],.live⟩
theorem qQ.acc{D:Vd}{l:List eO}{st:List Int}{b:Nat}{A:ao}{σ:List ag}(h:qQ D l st b A σ) (hb:3<b){w:List Bool}:qQ D l st b {A with accept:=w} (ay σ 3 ⟨none,w.map .bool,.live⟩):=
 ⟨h.m.mM,by rw[aO (by omega)];exact h.b,by rw[aO (by omega)];exact h.s,by rw[aO (by omega)];exact h.z⟩
theorem qQ.aQ{D:Vd}{l:List eO}{st:List Int}{b:Nat}{A:ao}{σ:List ag}(h:qQ D l st b A σ){s:Nat}(hs:s<A.inner.length) (hb:fp (D.n.aA l.length) (.rw .aQ s)+2<b){w:List Int}(hl:w.length=(A.cC .aQ s).length):qQ D l st b {A with inner:=A.inner.set s w} (ay σ (fp (D.n.aA l.length) (.rw .aQ s)+2) (Zb w)):=
 ⟨h.m.mN hs hl,by rw[aO (by omega)];exact h.b,by rw[aO (by omega)];exact h.s,by rw[aO (by omega)];exact h.z⟩
theorem qQ.pop{D:Vd}{l:List eO}{st:List Int}{b:Nat}{A:ao}{σ:List ag}(h:qQ D l st b A σ){s g:Nat}(hs:s<A.pop.length) (hg:g<(A.bD s).length) (hb:fp (D.n.aA l.length) (.pg s g)+2<b){w:List Int}(hl:w.length=(A.cG s g).length):qQ D l st b {A with pop:=A.pop.set s ((A.bD s).set g w)} (ay σ (fp (D.n.aA l.length) (.pg s g)+2) (Zb w)):=
 ⟨h.m.mO hs hg hl,by rw[aO (by omega)];exact h.b,by rw[aO (by omega)];exact h.s,by rw[aO (by omega)];exact h.z⟩
theorem qQ.ls{D:Vd}{cls st:List Int}{l:List eO}{b a s J G R:Nat}{A:ao}{σ:List ag}(h:qQ D l st b A σ) (hT:mn D cls l st a s J G R A) (hk:l.length ≠ 0):ak σ (9+D.n.aA l.length+2)=some ⟨none,(List.range l.length).map λi=>iw (fp (D.n.aA l.length) (.rw .aQ i)+2) D.n.aj.toNat,.live⟩:=by
 have:=h.m.has (.ls .aQ) _ (aa λe=>by have:=hT.li;rw[show A.inner=[]from e]at this;exact hk this.symm)
 rw[show ak σ (9+D.n.aA l.length+2)=_ from this];rw[show(A.tb .aQ).length=l.length from hT.li]
 congr 2
 exact gf λi hi=>by rw[hT.qt i (cy.1 hi)]
theorem qQ.po{D:Vd}{cls st:List Int}{l:List eO}{b a s J G R:Nat}{A:ao}{σ:List ag}(h:qQ D l st b A σ) (hT:mn D cls l st a s J G R A) (hk:l.length ≠ 0):ak σ (10+D.n.aA l.length+2)=some ⟨none,(List.range l.length).map λi=>iw (fp (D.n.aA l.length) (.pr i)+2) (D.n.aA l.length),.live⟩:=by
 have:=h.m.has .po _ (aa λe=>by have:=hT.lp;rw[e]at this;exact hk this.symm)
 rw[show ak σ (10+D.n.aA l.length+2)=_ from this];rw[hT.lp]
 congr 2
 exact gf λi hi=>by rw[hT.mR i (cy.1 hi)]
theorem qQ.pr{D:Vd}{cls st:List Int}{l:List eO}{b a s J G R:Nat}{A:ao}{σ:List ag}(h:qQ D l st b A σ) (hT:mn D cls l st a s J G R A){i:Nat}(hi:i<l.length):ak σ (fp (D.n.aA l.length) (.pr i)+2)=some ⟨none,(List.range (D.n.aA l.length)).map λg=>iw (fp (D.n.aA l.length) (.pg i g)+2) D.n.aq.toNat,.live⟩:=by
 have:=h.m.has (.pr i) _ (ab (by rw[hT.lp];exact hi))
 rw[this,hT.mR i hi]
 congr 2
 exact gf λg hg=>by rw[hT.qu i g hi (cy.1 hg)]
theorem amo (D:Vd) (cls:List Int) (l:List eO) (h:WU D cls l) :
  LX L D8 [D.vcs.av,iL cls,Lp l] [] (λr τ=>∃st:List Int,cv τ false r=some (tC D cls l st).av/\st.length=l.length/\∀i:Nat,i<l.length->ix st (vO l i)=i):=by
 refine ahL rfl ?_;obtain⟨Lk,nZ⟩:=h.k;simp[-al,-List.map_replicate];refine⟨by omega,?_⟩
 refine bC (λq:Nat×List Int=>[(3,.int q.1)]) (λq=>[⟨some 10,[.int 0,.int 0,.int 0,.int 0,.int 0,.ah,.ah,.ah,.ah,.ah],.live⟩,Zb q.2]) (λq=>q.1<=l.length/\q.2.length=l.length/\∀i:Nat,i<q.1->ix q.2 (vO l i)=i) (λq=>l.length-q.1) (0,List.replicate l.length 0) (by simp[bT]) ⟨by simp,by simp,λi hi=>by dsimp only at hi;omega⟩ ?_
 rintro⟨i,st⟩ ⟨i0,hl,hs⟩;dsimp only at i0 hl hs ⊢
 by_cases hi:i<l.length
 ·have hc:=h.c _ (aZ (l:=l) (n:=(i:Int)) (by omega) (by omega))
  simp[-al,-List.map_replicate,hi,me];refine⟨hc,hl,by omega,by omega,ba (i+1,st.set (ix l (i:Int)).1.toNat i) (by simp) (by simp[List.map_set]) ⟨by dsimp only;omega,by simp[hl],λj hj=>?_⟩ (by dsimp only;omega)⟩
  dsimp only at hj ⊢;have WW:=h.c _ (aZ (l:=l) (n:=(j:Int)) (by omega) (by omega))
  rw[zD (show 0<=vO l j from WW.1) (by rw[hl];exact WW.2)]
  by_cases e:j=i
  ·subst e;rw[ab (by unfold vO;omega)]
  ·rw[aa,hs j (by omega)]
   intro e2;have Lq:j<l.length:=by omega
   have h1:(l.map λc=>c.1)[j]'(by simpa using Lq)=(l.map λc=>c.1)[i]'(by simpa using hi):=by
    rw[oN,oN,<-aS Lq,<-aS hi];unfold vO at e2;omega
   exact e ((List.getElem_inj h.nd).1 h1)
 ·have ei:i=l.length:=by omega
  subst ei;obtain⟨rv,τ,hF,Um,hA⟩:=dS (Ui D.n h.vo.ok l.length nZ h.kc);have Un:=Ul (D:=D) (cls:=cls) (st:=st) (l:=l);rw[Un.bS (by omega)]at Um
  subst Um;have Uo : L wN [.agg [.int D.n.calls,.int D.n.aj,.int D.n.aq,.int D.n.stack,.int D.n.start,.aE false (D.n.accept.map .bool),.aE false (D.n.call.map iL),.aE false (D.n.push.map iL),.aE false (D.n.inner.map iL),.aE false (D.n.pop.map cK)],.int l.length] []=some (.agg [.int D.n.calls,.int D.n.aj,.int D.n.aq,.int ((D.n.aA l.length:Nat):Int),.int 0,.sl 1 l.length 0 l.length,.sl (6+D.n.aA l.length) l.length 0 l.length,.sl (7+D.n.aA l.length) l.length 0 l.length,.sl (9+D.n.aA l.length) l.length 0 l.length,.sl (10+D.n.aA l.length) l.length 0 l.length],τ):=hF;have JX:=hA.shift [⟨some 10,[.int 0,.int 0,.int 0,.int 0,.int 0,.ah,.ah,.ah,.ah,.ah],.live⟩,Zb st];obtain⟨fh,nX⟩:∃s,([⟨some 10,[.int 0,.int 0,.int 0,.int 0,.int 0,.ah,.ah,.ah,.ah,.ah],.live⟩,Zb st]:List ag)++τ.map (gM 2)=s:=⟨_,rfl⟩;have e1:∀Y:List ag,(⟨some 10,[.int 0,.int 0,.int 0,.int 0,.int 0,.ah,.ah,.ah,.ah,.ah],.live⟩:ag)::⟨none,st.map .int,.live⟩::(τ.map (gM 2)++Y)=fh++Y:=λY=>by rw[<-nX];rfl
  have e2:τ.length+1+1=fh.length:=by rw[<-nX];simp
  have Ff:AS (D.n.dO l.length l.length) (λt=>fp (D.n.aA l.length) t+2) fh:=by rw[<-nX];exact JX
  have eb:∀Y:ag,ak (fh ++ [Y]) fh.length=some Y:=λY=>iq;have es:∀Y Z:ag,ay (fh ++ [Y]) fh.length Z=fh ++ [Z]:=λY Z=>Aa;have ij:ak fh 1=some (Zb st):=by rw[<-nX];rfl
  have amp:ak fh 0=some ⟨some 10,[.int 0,.int 0,.int 0,.int 0,.int 0,.ah,.ah,.ah,.ah,.ah],.live⟩:=by rw[<-nX];rfl
  simp[-al,-List.map_replicate,Uo, jx,kM,e1,e2,eb,es];have e3:∀Y Z:ag,(⟨some 10,[.int 0,.int 0,.int 0,.int 0,.int 0,.ah,.ah,.ah,.ah,.ah],.live⟩:ag)::⟨none,st.map .int,.live⟩::ay (τ.map (gM 2) ++ [Y]) τ.length Z=fh ++ [Z]:=λY Z=>by
   rw[show ay (τ.map (gM 2) ++ [Y]) τ.length Z=τ.map (gM 2) ++ [Z]from by have:=Aa (Q:=τ.map (gM 2)) (B:=Y) (C:=Z);rwa [dR]at this,e1]
  simp only[e3];clear es eb e1 e2 e3 Uo hF;have pac:=Ff.lt (t:=.ac) rfl;have prw:∀s,s<l.length->fp (D.n.aA l.length) (.rw .aQ s)+2<fh.length:=λs hs=>Ff.lt (t:=.rw .aQ s) (ab (by rw[mP];exact hs))
  have ppg:∀s g,s<l.length->g<D.n.aA l.length->fp (D.n.aA l.length) (.pg s g)+2<fh.length:=λs g hs hg=>Ff.lt (t:=.pg s g) (ab ⟨by rw[mQ];exact hs,by rw[(kK hs).2.2.2];simpa using hg⟩)
  refine bC (λq:Nat×ao×List ag=>[(9,.int q.1)]) (λq=>q.2.2) (λq=>q.1<=l.length/\mn D cls l st q.1 q.1 0 0 0 q.2.1/\qQ D l st fh.length q.2.1 q.2.2) (λq=>l.length-q.1) (0,D.n.dO l.length l.length,fh ++ [⟨some 10,[.int D.n.calls,.int D.n.aj,.int D.n.aq,.int ((D.n.aA l.length:Nat):Int),.int 0,.sl 3 l.length 0 l.length,.sl (6+D.n.aA l.length+2) l.length 0 l.length,.sl (7+D.n.aA l.length+2) l.length 0 l.length,.sl (9+D.n.aA l.length+2) l.length 0 l.length,.sl (10+D.n.aA l.length+2) l.length 0 l.length],.live⟩]) (by simp[bT]) ⟨by simp,Un,Ff.other λt B hB=>gj (Ff.lt hB),iq,gi ij,gi amp⟩ ?_
  rintro⟨s,A,σ⟩ ⟨s0,hT,hM⟩;dsimp only at s0 hT hM ⊢;have xH:=hM.b;have mZ:=hM.z
  by_cases gy:s<l.length
  ·have hv:=h.v _ (aZ (l:=l) (n:=(s:Int)) (by omega) (by omega))
   have Ae:=hM.m.has .ac _ rfl;have hK:=h.vo.st _ (aZ (l:=D.K) hv.1 hv.2);have oD:=h.s0;have r7:=h.s1;unfold Vd.iO at r7;have hn:=h.vo.ok;have Le:=hK.1 _ (aZ (l:=ix D.K (ix l (s:Int)).2.1) r7.1 (by rw[hK.2];exact r7.2))
   rw[show fp (D.n.aA l.length) .ac+2=3 from rfl]at Ae pac;have Up:=hT.la;simp[-al,-List.map_replicate,gy,me,xH,Ae,hv,hK,oD,r7,Le,hn.start,Up];have fc:=h.vn.inl (ix l (s:Int)).2.1.toNat (by omega)
   rw[show(((ix l (s:Int)).2.1.toNat:Nat):Int)=(ix l (s:Int)).2.1 by omega]at fc
   have AK:=h.vn.f.i;have hfb:=h.vn.f.b;have wz:=h.vn.n;have lI:=h.vn.c;have Ga:=h.vn.r;refine⟨by omega,?_⟩
   have hT1:=hT.mM gy;have hM1:=hM.acc pac (w:=A.accept.set s (D.ac D.iO (xa l s)));rw[List.map_set]at hM1;have Uq:∀y,0<=y->y<(D.K.length:Int)->0<=ix cls y/\ix cls y<(st.length:Int):=λy y0 y1=>by
    have:=h.cr _ (aZ (l:=cls) y0 (by rw[h.cl];exact y1))
    rw[hl];exact this
   refine bC (λq:Nat×ao×List ag=>[(15,.int q.1)]) (λq=>q.2.2) (λq=>q.1<=D.n.aj.toNat/\mn D cls l st (s+1) s q.1 0 0 q.2.1/\qQ D l st fh.length q.2.1 q.2.2) (λq=>D.n.aj.toNat-q.1) (0,_,_) (by simp[bT];rfl) ⟨by simp,hT1,hM1⟩ ?_
   rintro⟨j,A2,pO⟩ ⟨j0,A0,Af⟩;dsimp only at j0 A0 Af ⊢;have uW:=Af.b;have e2:ix (List.range l.length) (s:Int)=s:=by rw[aS (by simpa using gy)];simp
   have e3:ix (List.range l.length) (0+(s:Int)*1)=s:=by rw[<-e2];congr 1;omega
   by_cases hj:j<D.n.aj.toNat
   ·have yG:=bM (show(j:Int)<(((ix D.IN (ix l (s:Int)).2.1).length:Nat):Int)by omega)
    have hy:=fc.2 _ (aZ (l:=ix D.IN (ix l (s:Int)).2.1) (n:=(j:Int)) (by omega) (by omega))
    have Ur:=Uq _ hy.1 hy.2;have xE:=Af.ls A0 (by omega)
    have rL:=Af.m.has (.rw .aQ s) _ (ab (by rw[show(A2.tb .aQ).length=l.length from A0.li];exact gy))
    have iv:=A0.qt s gy;have KY:=Af.s;have gD:=h.cl;simp[-al,-List.map_replicate,yG,uW,xE,gy,e2,e3,rL,km,KY];refine⟨by rw[gD];exact hy,⟨Ur.1,by rw[<-hl];exact Ur.2⟩,hl,by omega,by omega,iv,by omega,by omega,ba (j+1,{A2 with inner:=A2.inner.set s ((A2.cC .aQ s).set j (Fe D cls l st s j))},ay pO (fp (D.n.aA l.length) (.rw .aQ s)+2) (Zb ((A2.cC .aQ s).set j (Fe D cls l st s j)))) (by simp) ?_ ⟨by dsimp only;omega,A0.mN gy hj,Af.aQ (by rw[A0.li];exact gy) (prw s gy) (by simp)⟩ (by dsimp only;omega)⟩
    dsimp only;rw[Zb,List.map_set];rfl
   ·have yG:=gg (show ¬(j:Int)<(((ix D.IN (ix l (s:Int)).2.1).length:Nat):Int)by omega)
    have ej:j=D.n.aj.toNat:=by omega
    rw[ej]at A0;simp[-al,-List.map_replicate,yG];refine bC (λq:Nat×ao×List ag=>[(20,.int q.1)]) (λq=>q.2.2) (λq=>q.1<=l.length/\mn D cls l st (s+1) s D.n.aj.toNat (q.1*D.n.calls.toNat) 0 q.2.1/\qQ D l st fh.length q.2.1 q.2.2) (λq=>l.length-q.1) (0,A2,pO) (by simp[bT]) ⟨by simp,by simpa using A0,Af⟩ ?_
    rintro⟨p,A3,xL⟩ ⟨p0,WX,hM3⟩;dsimp only at p0 WX hM3 ⊢
    by_cases hp:p<l.length
    ·have hvp:=h.v _ (aZ (l:=l) (n:=(p:Int)) (by omega) (by omega))
     simp[-al,-List.map_replicate,hp,me];refine bC (λq:Nat×ao×List ag=>[(23,.int q.1)]) (λq=>q.2.2) (λq=>q.1<=D.n.calls.toNat/\mn D cls l st (s+1) s D.n.aj.toNat (p*D.n.calls.toNat+q.1) 0 q.2.1/\qQ D l st fh.length q.2.1 q.2.2) (λq=>D.n.calls.toNat-q.1) (0,A3,xL) (by simp[bT]) ⟨by simp,WX,hM3⟩ ?_
     rintro⟨c,A4,Ll⟩ ⟨c0,WY,hM4⟩;dsimp only at c0 WY hM4 ⊢
     by_cases hc:c<D.n.calls.toNat
     ·have Gu:=bM (show(c:Int)<D.n.calls by omega)
      have ni:=h.vn.rN (ix l (p:Int)).2.1.toNat c (ix l (s:Int)).2.1.toNat (by omega) hc (by omega)
      unfold Vd.bS Vd.row at ni;rw[show(((ix l (p:Int)).2.1.toNat:Nat):Int)=(ix l (p:Int)).2.1 by omega,show(((ix l (s:Int)).2.1.toNat:Nat):Int)=(ix l (s:Int)).2.1 by omega]at ni
      have AL:=h.vn.rl (ix l (p:Int)).2.1.toNat (by omega)
      unfold Vd.row at AL;have AM:=h.vn.f.c (ix l (p:Int)).2.1.toNat c (by omega) hc
      unfold Vd.bS Vd.row at AM;rw[show(((ix l (p:Int)).2.1.toNat:Nat):Int)=(ix l (p:Int)).2.1 by omega]at AL AM
      have x1:=bM (show(ix l (p:Int)).2.1<(D.BL.length:Int)by omega)
      have x2:=bM (show(c:Int)<((ix D.BL (ix l (p:Int)).2.1).length:Int)by omega)
      have x3:=bM (show(ix l (s:Int)).2.1<((ix (ix D.BL (ix l (p:Int)).2.1) (c:Int)).length:Int)by omega)
      have y1:=bM hvp.1;have y2:=bM hv.1;simp[-al,-List.map_replicate,Gu,x1,x2,x3,y1,y2];refine bC (λq:Nat×ao×List ag=>[(27,.int q.1)]) (λq=>q.2.2) (λq=>q.1<=D.n.aq.toNat/\mn D cls l st (s+1) s D.n.aj.toNat (p*D.n.calls.toNat+c) q.1 q.2.1/\qQ D l st fh.length q.2.1 q.2.2) (λq=>D.n.aq.toNat-q.1) (0,A4,Ll) (by simp[bT]) ⟨by simp,WY,hM4⟩ ?_
      rintro⟨r,A5,σ5⟩ ⟨r0,Ag,Gv⟩;dsimp only at r0 Ag Gv ⊢
      by_cases hr:r<D.n.aq.toNat
      ·have pN:=bM (show(r:Int)<(((ix (ix (ix D.BL (ix l (p:Int)).2.1) (c:Int)) (ix l (s:Int)).2.1).length:Nat):Int)by omega)
       have hy:=ni.2 _ (aZ (l:=ix (ix (ix D.BL (ix l (p:Int)).2.1) (c:Int)) (ix l (s:Int)).2.1) (n:=(r:Int)) (by omega) (by omega))
       have Ur:=Uq _ hy.1 hy.2;have amq:=Gv.b;have Gp:=Gv.po Ag (by omega)
       have Fg:=Gv.pr Ag gy;have KY:=Gv.s;have gD:=h.cl;have hG:p*D.n.calls.toNat+c<D.n.aA l.length:=by
        have h1:p*D.n.calls.toNat+D.n.calls.toNat<=l.length*D.n.calls.toNat:=by rw[<-Nat.succ_mul];exact jR _ (by omega)
        show _<max 1 (l.length*D.n.calls.toNat);omega
       have hGi:(p:Int)*D.n.calls+(c:Int)=((p*D.n.calls.toNat+c:Nat):Int):=by rw[Int.natCast_add,oy];congr 2;omega
       have JB:D.n.aA l.length<=128:=by have:=h.kc;show max 1 (l.length*D.n.calls.toNat)<=128;omega
       have WZ:=Gv.m.has (.pg s (p*D.n.calls.toNat+c)) _ (ab ⟨by rw[Ag.lp];exact gy,by rw[Ag.mR s gy];exact hG⟩)
       have gV:=Ag.qu s _ gy hG;have wW:0<=(p:Int)*D.n.calls/\(p:Int)*D.n.calls<=128:=by
        have:(p:Int)*D.n.calls=((p*D.n.calls.toNat:Nat):Int):=by rw[oy];congr 1;omega
        omega
       have W0:uX D cls l st s (p*D.n.calls.toNat+c) r=ix st (ix cls (ix (ix (ix (ix D.BL (ix l (p:Int)).2.1) (c:Int)) (ix l (s:Int)).2.1) (r:Int))):=by
        unfold uX;rw[aa (by omega),show(p*D.n.calls.toNat+c)/D.n.calls.toNat=p from by rw[Nat.mul_comm,Nat.mul_add_div (by omega),Nat.div_eq_of_lt hc,Nat.add_zero],show(p*D.n.calls.toNat+c)%D.n.calls.toNat=c from by rw[Nat.mul_comm,Nat.mul_add_mod,Nat.mod_eq_of_lt hc]]
        rfl
       have hTn:=Ag.mO gy hG hr;have hMn:=Gv.pop (w:=(A5.cG s (p*D.n.calls.toNat+c)).set r (uX D cls l st s (p*D.n.calls.toNat+c) r)) (by rw[Ag.lp];exact gy) (by rw[Ag.mR s gy];exact hG) (ppg s _ gy hG) (by simp)
       have f2:ix (List.range (D.n.aA l.length)) ((p*D.n.calls.toNat+c:Nat):Int)=p*D.n.calls.toNat+c:=by rw[aS (by simpa using hG)];simp
       generalize p*D.n.calls.toNat+c=g at *;have f3:ix (List.range (D.n.aA l.length)) (0+(g:Int)*1)=g:=by rw[<-f2];congr 1;rw[f2];omega
       simp[-al,-List.map_replicate,pN,amq,Gp,gy,e2,e3,Fg,hGi,f2,f3,hG,WZ,KY];refine⟨by omega,by omega,by rw[gD];exact hy,⟨Ur.1,by rw[<-hl];exact Ur.2⟩,hl,by omega,by omega,gV,by omega,by omega,ba (r+1,_,_) (by simp) ?_ ⟨by dsimp only;omega,hTn,hMn⟩ (by dsimp only;omega)⟩
       dsimp only;rw[Zb,List.map_set,W0]
      ·have pN:=gg (show ¬(r:Int)<(((ix (ix (ix D.BL (ix l (p:Int)).2.1) (c:Int)) (ix l (s:Int)).2.1).length:Nat):Int)by omega)
       have er:r=D.n.aq.toNat:=by omega
       rw[er]at Ag;simp[-al,-List.map_replicate,pN];exact⟨by omega,ba (c+1,A5,σ5) (by simp) rfl ⟨by dsimp only;omega,Ag.Ac,Gv⟩ (by dsimp only;omega)⟩
     ·have Gu:=gg (show ¬(c:Int)<D.n.calls by omega)
      have ec:c=D.n.calls.toNat:=by omega
      have epc:p*D.n.calls.toNat+c=(p+1)*D.n.calls.toNat:=by rw[ec,fx,Nat.one_mul]
      rw[epc]at WY;simp[-al,-List.map_replicate,Gu];exact⟨by omega,ba (p+1,A4,Ll) (by simp) rfl ⟨by dsimp only;omega,WY,hM4⟩ (by dsimp only;omega)⟩
    ·have ep:p=l.length:=by omega
     rw[ep]at WX;simp[-al,-List.map_replicate,hp];exact⟨by omega,ba (s+1,A3,xL) (by simp) rfl ⟨by dsimp only;omega,WX.Ad,hM3⟩ (by dsimp only;omega)⟩
  ·have es:s=l.length:=by omega
   subst es;have ij:∀B:ag,ak (ay σ 0 B) 0=some B:=λB=>cE (by have:=dz mZ;omega)
   have vA:=λ(ce:CE) (c0 c1 c2 c3 c4 c5 c6 c7 c8 c9:AV)=>rQ (ce:=ce) (σ:=ay σ 0 ⟨some 10,[c0,c1,c2,c3,c4,c5,c6,c7,c8,c9],.live⟩) (n:=0) (ij _);have pH:=λB:ag=>(hM.m.other (τ:=ay σ 0 B) λt C hC=>aO (by omega)).view
   rw[hT.fin]at pH;have ju:=hT.bS (by omega) (λt=>fp (D.n.aA l.length) t+2)
   rw[hT.fin]at ju;rw[ju]at pH;simp[-al,-B4,xH,mZ,ij,vA];exact⟨st,pH _,hl,hs⟩
theorem amr (D:Vd) (cls:List Int) (l:List eO) (h:WU D cls l):∃st:List Int,PC D8 [D.vcs.av,iL cls,Lp l]=some (tC D cls l st).av/\st.length=l.length/\∀i:Nat,i<l.length->ix st (vO l i)=i:=E6 (g:=λst:List Int=>(tC D cls l st).av) (R:=λst=>st.length=l.length/\∀i:Nat,i<l.length->ix st (vO l i)=i) (amo D cls l h)
def Fh:AV->Bool
 |.sl ..=>false
 |.ptr ..=>false
 |.agg _=>false
 |.bQ _=>false
 |.func ..=>false
 |.iface ..=>false
 |_=>true
theorem J3{σ:List ag}{f:Nat}{x:AV}(h:Fh x=true){acc:List Nat}:reach σ f x acc=acc:=by
 cases f with
 |zero=>rfl
 |succ f=>cases x<;>first|rfl|(simp[Fh]at h)
theorem J4{σ:List ag}{f:Nat}:∀(l:List AV) (acc:List Nat),(∀x∈l,Fh x=true)->l.foldl (λacc y=>reach σ f y acc) acc=acc
 | [],_,_=>rfl
 |x::l,acc,h=>by
  rw[oA,J3 (h x (by simp))]
  exact J4 l acc λy hy=>h y (by simp[hy])
theorem Us{σ:List ag}{f b u o n:Nat}{B:ag}(hB:ak σ b=some B){acc:List Nat}(hn:b∉acc):reach σ (f+1) (.sl b u o n) acc=B.cells.foldl (λacc y=>reach σ f y acc) (b::acc):=by
 simp only[reach,hB];rw[aa (by simpa using hn)]
theorem Ut{σ:List ag}{f b u o:Nat}{B:ag}(hB:ak σ b=some B){acc:List Nat}(hn:b∉acc):reach σ (f+1) (.ptr b u o) acc=B.cells.foldl (λacc y=>reach σ f y acc) (b::acc):=by
 simp only[reach,hB];rw[aa (by simpa using hn)]
theorem Fi{σ:List ag}{f b u o n:Nat}{B:ag}(hB:ak σ b=some B) (h:∀x∈B.cells,Fh x=true){acc:List Nat}:reach σ (f+1) (.sl b u o n) acc=if acc.contains b then acc else b::acc:=by
 simp only[reach,hB];rw[J4 _ _ h]
theorem J5{b:Nat}{acc:List Nat}:b∈(if acc.contains b then acc else b::acc)/\∀x,(x∈acc->x∈(if acc.contains b then acc else b::acc))/\(x∈(if acc.contains b then acc else b::acc)->x∈acc\/x=b):=by
 by_cases h:acc.contains b=true
 ·rw[ab h]
  exact⟨by simpa using h,λx=>⟨id,.inl⟩⟩
 ·rw[aa h]
  exact⟨by simp,λx=>⟨λa=>by simp[a],λa=>by rcases cB.1 a with a|a;exact .inr a;exact .inl a⟩⟩
theorem J6{α β:Type}{g:Nat->β}{f:α->β->α}{I:Nat->α->Prop}:∀(n:Nat) (a:α),I 0 a->(∀k a,k<n->I k a->I (k+1) (f a (g k)))->I n (((List.range n).map g).foldl f a)
 |0,a,h0,_=>h0
 |n+1,a,h0,hs=>by
  rw[mE,kY,List.foldl_append];exact hs n _ (by omega) (J6 n a h0 λk a hk=>hs k a (by omega))
def Tg.seen:Tg->Bool
 |.mp=>false
 |.old _=>false
 |_=>true
theorem Uu{σ:List ag}{f b n:Nat}{B:ag}(hB:n ≠ 0->ak σ b=some B) (h:∀x∈B.cells,Fh x=true){acc:List Nat}:(n ≠ 0->b∈reach σ (f+1) (cQ b n) acc)/\∀x,(x∈acc->x∈reach σ (f+1) (cQ b n) acc)/\(x∈reach σ (f+1) (cQ b n) acc->x∈acc\/n ≠ 0/\x=b):=by
 by_cases hn:n=0
 ·subst hn
  exact⟨λh=>absurd rfl h,λx=>⟨id,.inl⟩⟩
 ·rw[show cQ b n = .sl b n 0 n from aa hn,Fi (hB hn) h]
  obtain⟨h1,h2⟩:=J5 (b:=b) (acc:=acc);exact⟨λ_=>h1,λx=>⟨(h2 x).1,λa=>((h2 x).2 a).imp id λe=>⟨hn,e⟩⟩⟩
theorem ams{D:Vd}{O:Nat->Option ag}{p:Tg->Nat}{σ:List ag}(h:VS D O p σ){f x u o n:Nat}(hx:x<D.BL.length){acc:List Nat}(amt:p (.rw x)∉acc) :
  (p (.rw x)∈reach σ (f+2) (.sl (p (.rw x)) u o n) acc/\∀c,c<(D.row x).length->D.bS x c ≠ []->p (.cl x c)∈reach σ (f+2) (.sl (p (.rw x)) u o n) acc)/\∀b,(b∈acc->b∈reach σ (f+2) (.sl (p (.rw x)) u o n) acc)/\(b∈reach σ (f+2) (.sl (p (.rw x)) u o n) acc->b∈acc\/b=p (.rw x)\/∃c B,D.cont O p (.cl x c)=some B/\b=p (.cl x c)):=by
 have hb:=h.has (.rw x) _ (ab hx);have e:reach σ (f+2) (.sl (p (.rw x)) u o n) acc=((List.range (D.row x).length).map λc=>cQ (p (.cl x c)) (D.bS x c).length).foldl (λacc y=>reach σ (f+1) y acc) (p (.rw x)::acc):=by
  show reach σ ((f+1)+1) _ _=_;simp only[reach,hb];rw[aa (by simpa using amt)]
  rfl
 rw[e];have key:=J6 (g:=λc=>cQ (p (.cl x c)) (D.bS x c).length) (f:=λacc y=>reach σ (f+1) y acc) (I:=λk a=>(∀c,c<k->D.bS x c ≠ []->p (.cl x c)∈a)/\∀b,(b∈p (.rw x)::acc->b∈a)/\(b∈a->b∈p (.rw x)::acc\/∃c B,D.cont O p (.cl x c)=some B/\b=p (.cl x c))) (D.row x).length (p (.rw x)::acc) ⟨λc hc=>by omega,λb=>⟨id,.inl⟩⟩ λk a hk ⟨i1,i2⟩=>by
  have gD:(D.bS x k).length ≠ 0->ak σ (p (.cl x k))=some ⟨none,(D.bS x k).map wI,.live⟩:=λbY=>h.has (.cl x k) _ (ab ⟨hx,hk,λe=>bY (by rw[e];rfl)⟩)
  obtain⟨s1,s2⟩:=Uu (σ:=σ) (f:=f) gD (λy hy=>by obtain⟨l,_,rfl⟩:=cR.1 hy;rfl) (acc:=a)
  refine⟨λc hc bY=>?_,λb=>⟨λhb=>(s2 b).1 ((i2 b).1 hb),λhb=>?_⟩⟩
  ·by_cases ec:c=k
   ·subst ec;exact s1 λe=>bY (dW e)
   ·exact(s2 _).1 (i1 c (by omega) bY)
  ·rcases(s2 b).2 hb with hb|⟨bY,rfl⟩
   ·exact(i2 b).2 hb
   ·exact .inr ⟨k,_,ab ⟨hx,hk,λe=>bY (by rw[e];rfl)⟩,rfl⟩
 generalize ((List.range (D.row x).length).map λc=>cQ (p (.cl x c)) (D.bS x c).length).foldl (λacc y=>reach σ (f+1) y acc) (p (.rw x)::acc)=a at *;obtain⟨i1,i2⟩:=key;refine⟨⟨(i2 _).1 (by simp),i1⟩,λb=>⟨λhb=>(i2 b).1 (by simp[hb]),λhb=>?_⟩⟩
 rcases(i2 b).2 hb with hb|hb
 ·rcases cB.1 hb with hb|hb
  ·exact .inr (.inl hb)
  ·exact .inl hb
 ·exact .inr (.inr hb)
theorem amu{D:Vd}{O:Nat->Option ag}{p:Tg->Nat}{σ:List ag}(h:VS D O p σ):(∀t B,t.seen=true->D.cont O p t=some B->p t∈reach σ vd (.ptr (p .v) 16 0) [])/\∀b,b∈reach σ vd (.ptr (p .v) 16 0) []->∃t B,t.seen=true/\D.cont O p t=some B/\b=p t:=by
 have hv:=h.has .v _ rfl;have gV:=h.has .pl _ rfl;have xE:=h.has .ls _ rfl;have e0:reach σ vd (.ptr (p .v) 16 0) []=(D.box p).cells.foldl (λacc y=>reach σ 11 y acc) [p .v]:=by
  exact Ut (f:=11) hv (by simp)
 have e1:(D.box p).cells.foldl (λacc y=>reach σ 11 y acc) [p .v]=reach σ 11 (cQ (p .bl) D.BL.length) (reach σ 11 (cQ (p .aQ) D.IN.length) (reach σ 11 (.sl (p .ls) D.K.length 0 D.K.length) (reach σ 11 (.sl (p .pl) D.plc.length 0 D.plc.length) [p .v]))):=rfl;rw[e0,e1,Fi (f:=10) gV (λy hy=>by obtain⟨l,_,rfl⟩:=cR.1 hy;rfl),Fi (f:=10) xE (λy hy=>by obtain⟨l,_,rfl⟩:=cR.1 hy;rfl)]
 obtain⟨a1,a2⟩:=J5 (b:=p .pl) (acc:=[p .v]);generalize (if[p .v].contains (p .pl)then[p .v]else p .pl :: [p .v])=A1 at *
 obtain⟨b1,b2⟩:=J5 (b:=p .ls) (acc:=A1);generalize (if A1.contains (p .ls)then A1 else p .ls::A1)=A2 at *
 have fc:D.IN.length ≠ 0->ak σ (p .aQ)=some ⟨none,D.IN.map wI,.live⟩:=λbY=>h.has .aQ _ (aa λe=>bY (by rw[e];rfl))
 obtain⟨c1,c2⟩:=Uu (σ:=σ) (f:=10) fc (λy hy=>by obtain⟨l,_,rfl⟩:=cR.1 hy;rfl) (acc:=A2)
 generalize reach σ 11 (cQ (p .aQ) D.IN.length) A2=A3 at *;have W1:∀b,b∈A3->b=p .v\/b=p .pl\/b=p .ls\/(D.IN.length ≠ 0/\b=p .aQ):=λb hb=>by
  rcases(c2 b).2 hb with hb|hb
  ·rcases(b2 b).2 hb with hb|hb
   ·rcases(a2 b).2 hb with hb|hb
    ·simp at hb;exact .inl hb
    ·exact .inr (.inl hb)
   ·exact .inr (.inr (.inl hb))
  ·exact .inr (.inr (.inr hb))
 have v3:p .v∈A3:=(c2 _).1 ((b2 _).1 ((a2 _).1 (by simp)))
 have pl3:p .pl∈A3:=(c2 _).1 ((b2 _).1 a1);have ls3:p .ls∈A3:=(c2 _).1 b1;have Fj:D.IN.length ≠ 0->∃B,D.cont O p .aQ=some B:=λbY=>⟨_,aa λe=>bY (by rw[e];rfl)⟩
 by_cases hB:D.BL.length=0
 ·rw[show cQ (p .bl) D.BL.length = .ah by rw[hB];rfl,show reach σ 11 .ah A3=A3 from rfl]
  have oZ : D.BL=[]:=dW hB;refine⟨λt B ht hc=>?_,λb hb=>?_⟩
  ·cases t with
   |v=>exact v3
   |pl=>exact pl3
   |ls=>exact ls3
   |aQ=>exact c1 λe=>by simp[Vd.cont,dW e]at hc
   |mp=>simp[Tg.seen]at ht
   |old i=>simp[Tg.seen]at ht
   |bl=>simp[Vd.cont,oZ]at hc
   |rw x=>simp[Vd.cont,oZ]at hc
   |cl x c=>simp[Vd.cont,oZ]at hc
  ·rcases W1 b hb with rfl|rfl|rfl|⟨bY,rfl⟩
   ·exact⟨.v,_,rfl,rfl,rfl⟩
   ·exact⟨.pl,_,rfl,rfl,rfl⟩
   ·exact⟨.ls,_,rfl,rfl,rfl⟩
   ·obtain⟨B,hB⟩:=Fj bY
    exact⟨.aQ,B,rfl,hB,rfl⟩
 ·have oZ : D.BL ≠ []:=λe=>hB (by rw[e];rfl)
  have ni:D.cont O p .bl=some (D.tW p):=aa oZ;have sv:=h.has .bl _ ni;have nbl:p .bl∉A3:=λhb=>by
   rcases W1 _ hb with e|e|e|⟨bY,e⟩
   ·exact h.ne ni (u:=.v) rfl (by simp) e
   ·exact h.ne ni (u:=.pl) rfl (by simp) e
   ·exact h.ne ni (u:=.ls) rfl (by simp) e
   ·obtain⟨B,hB⟩:=Fj bY
    exact h.ne ni hB (by simp) e
  have e2:reach σ 11 (cQ (p .bl) D.BL.length) A3=((List.range D.BL.length).map λx=>AV.sl (p (.rw x)) (D.row x).length 0 (D.row x).length).foldl (λacc y=>reach σ 10 y acc) (p .bl::A3):=by
   rw[show cQ (p .bl) D.BL.length = .sl (p .bl) D.BL.length 0 D.BL.length from aa hB];exact Us (f:=10) sv nbl
  rw[e2];have key:=J6 (g:=λx=>AV.sl (p (.rw x)) (D.row x).length 0 (D.row x).length) (f:=λacc y=>reach σ 10 y acc) (I:=λk a=>(∀x,x<k->p (.rw x)∈a/\∀c,c<(D.row x).length->D.bS x c ≠ []->p (.cl x c)∈a)/\∀b,(b∈p .bl::A3->b∈a)/\(b∈a->b∈p .bl::A3\/∃x,x<k/\(b=p (.rw x)\/∃c B,D.cont O p (.cl x c)=some B/\b=p (.cl x c)))) D.BL.length (p .bl::A3) ⟨λx hx=>by omega,λb=>⟨id,.inl⟩⟩ λk a hk ⟨i1,i2⟩=>by
   have J7:D.cont O p (.rw k)=some (D.km p k):=ab hk;have nk:p (.rw k)∉a:=λhb=>by
    rcases(i2 _).2 hb with hb|⟨x,hx,e|⟨c,B,hc,e⟩⟩
    ·rcases cB.1 hb with e|hb
     ·exact h.ne J7 ni (by simp) e
     ·rcases W1 _ hb with e|e|e|⟨bY,e⟩
      ·exact h.ne J7 (u:=.v) rfl (by simp) e
      ·exact h.ne J7 (u:=.pl) rfl (by simp) e
      ·exact h.ne J7 (u:=.ls) rfl (by simp) e
      ·obtain⟨B,hB⟩:=Fj bY
       exact h.ne J7 hB (by simp) e
    ·exact h.ne J7 (u:=.rw x) (ab (by omega)) (by simp;omega) e
    ·exact h.ne J7 hc (by simp) e
   obtain⟨⟨r1,r2⟩,r3⟩:=ams h (f:=8) hk (u:=(D.row k).length) (o:=0) (n:=(D.row k).length) nk;refine⟨λx hx=>?_,λb=>⟨λhb=>(r3 b).1 ((i2 b).1 hb),λhb=>?_⟩⟩
   ·by_cases e:x=k
    ·subst e;exact⟨r1,r2⟩
    ·obtain⟨q1,q2⟩:=i1 x (by omega)
     exact⟨(r3 _).1 q1,λc hc bY=>(r3 _).1 (q2 c hc bY)⟩
   ·rcases(r3 b).2 hb with hb|hb
    ·rcases(i2 b).2 hb with hb|⟨x,hx,q⟩
     ·exact .inl hb
     ·exact .inr ⟨x,by omega,q⟩
    ·exact .inr ⟨k,by omega,hb⟩
  generalize ((List.range D.BL.length).map λx=>AV.sl (p (.rw x)) (D.row x).length 0 (D.row x).length).foldl (λacc y=>reach σ 10 y acc) (p .bl::A3)=a at *;obtain⟨i1,i2⟩:=key;have up:∀b,b∈A3->b∈a:=λb hb=>(i2 b).1 (by simp[hb])
  refine⟨λt B ht hc=>?_,λb hb=>?_⟩
  ·cases t with
   |v=>exact up _ v3
   |pl=>exact up _ pl3
   |ls=>exact up _ ls3
   |aQ=>exact up _ (c1 λe=>by simp[Vd.cont,dW e]at hc)
   |mp=>simp[Tg.seen]at ht
   |old i=>simp[Tg.seen]at ht
   |bl=>exact(i2 _).1 (by simp)
   |rw x=>
    have hx:x<D.BL.length:=eS λhn=>by simp[Vd.cont,hn]at hc
    exact(i1 x hx).1
   |cl x c=>
    have hx:x<D.BL.length/\c<(D.row x).length/\D.bS x c ≠ []:=eS λhn=>by
     have hc:(if x<D.BL.length/\c<(D.row x).length/\D.bS x c ≠ []then some _ else none)=some B:=hc
     rw[aa hn]at hc;simp at hc
    exact(i1 x hx.1).2 c hx.2.1 hx.2.2
  ·rcases(i2 b).2 hb with hb|⟨x,hx,rfl|⟨c,B,hc,rfl⟩⟩
   ·rcases cB.1 hb with rfl|hb
    ·exact⟨.bl,_,rfl,ni,rfl⟩
    ·rcases W1 b hb with rfl|rfl|rfl|⟨bY,rfl⟩
     ·exact⟨.v,_,rfl,rfl,rfl⟩
     ·exact⟨.pl,_,rfl,rfl,rfl⟩
     ·exact⟨.ls,_,rfl,rfl,rfl⟩
     ·obtain⟨B,hB⟩:=Fj bY
      exact⟨.aQ,B,rfl,hB,rfl⟩
   ·exact⟨.rw x,_,rfl,ab hx,rfl⟩
   ·exact⟨.cl x c,B,rfl,hc,rfl⟩
theorem VS.Uv{D:Vd}{O:Nat->Option ag}{p:Tg->Nat}{σ τ:List ag}(h:VS D O p σ) (hb:∀t B,t.seen=true->D.cont O p t=some B->ak τ (p t)=some B):Ab.view τ false vd (.ptr (p .v) 16 0)=some D.vcs.av:=by
 have hv:=hb .v _ rfl rfl;have hu:upto τ (p .v) 16=some (D.box p):=uM hv rfl rfl;show Ab.view τ false (11+1) _=_;unfold Ab.view;simp only[hu];have hp:part (D.box p).cells 0 (D.box p).k=some (.agg (D.box p).cells):=rfl;rw[ab (by rfl),hp]
 have hm:bV (Ab.view τ false 10) (D.box p).cells=some [.int D.n.calls,.int D.n.aj,.int D.n.aq,.int D.n.stack,.int D.n.start,bL D.n.accept,cK D.n.call,cK D.n.push,cK D.n.inner,fU D.n.pop,iL D.n.bj,iL D.plc,cK D.K,.p7,cK D.IN,nh D.BL]:=by
  unfold Vd.box;refine cF rfl (cF rfl (cF rfl (cF rfl (cF rfl (cF rfl (cF rfl (cF rfl (cF rfl (cF rfl (cF rfl (cF ?_ (cF ?_ (cF rfl (cF ?_ (cF ?_ rfl)))))))))))))))
  ·exact gu (k:=9) (hb .pl _ rfl rfl) rfl rfl λ_ _=>rfl
  ·exact gu (k:=9) (hb .ls _ rfl rfl) rfl rfl λ_ _=>rfl
  ·exact qp (k:=9) (λhx=>hb .aQ _ rfl (aa hx)) rfl λ_ _=>rfl
  ·have e:nh D.BL = .aE false ((List.range D.BL.length).map λ(x:Nat)=>fU (D.row x)):=by
    unfold Vd.row;rw[qo (f:=fU)]
   rw[e];refine qp (k:=9) (f:=λx=>.sl (p (.rw x)) (D.row x).length 0 (D.row x).length) (λhx=>hb .bl _ rfl (aa λe=>hx (by rw[e];rfl))) (by simp) λx hx=>?_
   have bJ :=cy.1 hx;have e:fU (D.row x) = .aE false ((List.range (D.row x).length).map λ(c:Nat)=>cK (D.bS x c)):=by
    unfold Vd.bS;rw[qo (f:=cK)]
   rw[e];refine gu (k:=8) (f:=λc=>cQ (p (.cl x c)) (D.bS x c).length) (hb (.rw x) _ rfl (ab bJ)) rfl (by simp) λc hc=>?_
   exact qp (k:=7) (λhz=>hb (.cl x c) _ rfl (ab ⟨bJ, cy.1 hc,hz⟩)) rfl λ_ _=>rfl
 have Wy:Ab.view τ false 11 (.agg (D.box p).cells)=some (.agg [.int D.n.calls,.int D.n.aj,.int D.n.aq,.int D.n.stack,.int D.n.start,bL D.n.accept,cK D.n.call,cK D.n.push,cK D.n.inner,fU D.n.pop,iL D.n.bj,iL D.plc,cK D.K,.p7,cK D.IN,nh D.BL]):=by
  show Ab.view τ false (10+1) _=_;unfold Ab.view;simp only[hm]
 simp only[Wy]
theorem Uw{D:Vd}{O:Nat->Option ag}{p:Tg->Nat}{vars:List AV}{fl:Option (Nat×AV)}{σ:List ag}{k b:Nat}{A:ag}{Q:Ex->St->Prop}(h:VS D O p σ) (hn:nth vars k = .ptr (p .v) 16 0) (hA:O b=some A) (hq:∀τ,ak τ b=some A->Q .fm ⟨eT vars k D.vcs.av,fl,τ⟩):W L (.lu k) ⟨vars,fl,σ⟩ Q:=by
 obtain⟨r1,r2⟩:=amu h;have hv:=h.Uv (τ:=bI (λc=>!(reach σ vd (.ptr (p .v) 16 0) []).contains c) 0 σ) λt B ht hc=>by
  rw[nM,h.has t B hc];simp[r1 t B ht hc]
 have hs:gU σ (.ptr (p .v) 16 0)=false:=rfl;have hb:ak (bI (λc=>(reach σ vd (.ptr (p .v) 16 0) []).contains c) 0 σ) b=some A:=by
  have ho:D.cont O p (.old b)=some A:=hA;have:=h.has _ _ ho;rw[h.old]at this;rw[nM,this];have:b∉reach σ vd (.ptr (p .v) 16 0) []:=λhm=>by
   obtain⟨t,B,ht,hc,e⟩:=r2 b hm;refine h.ne ho hc (λe2=>?_) (by rw[h.old];exact e)
   rw[<-e2]at ht;simp[Tg.seen]at ht
  simp[this]
 refine⟨0,.fm,_,?_,hq _ hb⟩;simp only[exec,hn,hv,hs]
 rfl
abbrev T3:=AV×AV×AV
def t3 (t:T3):List AV:=[t.1,t.2.1,t.2.2]
def fG (l:List T3):List AV:=l.flatMap t3
theorem ll:∀{l:List T3},(fG l).length=3*l.length
 | []=>rfl
 |x::l=>by
  have:=ll (l:=l);show(t3 x++fG l).length=_;rw[bu,this];show 3+_=_;simp;omega
theorem amv{l m:List T3}:fG (l++m)=fG l++fG m:=by simp[fG]
theorem xb{l:List T3}{i:Nat}(h:i<l.length):fG l=fG (l.take i)++([l[i].1,l[i].2.1,l[i].2.2]++fG (l.drop (i+1))):=by
 have e:l=l.take i++l[i]::l.drop (i+1):=by
  rw[<-List.drop_eq_getElem_cons h,oM]
 exact(congrArg fG e).trans amv
theorem Fk{l:List T3}{i:Nat}(h:i<l.length):(fG (l.take i)).length=i*3:=by rw[ll,my,qX (by omega),Nat.mul_comm]
theorem J8{l:List T3}{i:Nat}(h:i<l.length){t:T3}:fG (l.set i t)=fG (l.take i)++([t.1,t.2.1,t.2.2]++fG (l.drop (i+1))):=by
 have h' : i<(l.set i t).length:=by simpa using h
 rw[xb h', List.take_set_of_le (by omega),List.drop_set_of_lt (by omega)]
 simp
theorem amw{l:List T3}{i:Nat}(h:i<l.length):(fG l)[i*3]? = some l[i].1/\(fG l)[i*3+1]? = some l[i].2.1/\(fG l)[i*3+2]? = some l[i].2.2:=by
 have hl:=Fk h;rw[xb h];refine⟨?_,?_,?_⟩
 ·rw[gm (by omega),hl,Nat.sub_self];rfl
 ·rw[gm (by omega),hl,Nat.add_sub_cancel_left];rfl
 ·rw[gm (by omega),hl,Nat.add_sub_cancel_left];rfl
theorem amx{l:List T3}{i:Nat}(h:i<l.length){t:T3}:nS (fG l) (i*3) [t.1,t.2.1,t.2.2]=fG (l.set i t):=by
 have hl:=Fk h;rw[<-vE (by rw[ll];simp;omega)]
 unfold putAt;rw[J8 h];rw[show(fG l).take (i*3)=fG (l.take i)by rw[xb h,List.take_append_of_le_length (by omega),gl (by omega)],xb h,List.drop_append,hl,jH (l:=fG (l.take i)) (by simp;omega)]
 simp
theorem amy{l:List T3}{i:Nat}(h:i<l.length){x:AV}:nS (fG l) (i*3+1) [x]=fG (l.set i (l[i].1,x,l[i].2.2)):=by
 have hl:=Fk h;rw[rM,J8 h,xb h,List.set_append,aa (by omega),hl,Nat.add_sub_cancel_left]
 rfl
theorem amz{l:List T3}{i:Nat}(h:i<l.length){x:AV}:nS (fG l) (i*3+2) [x]=fG (l.set i (l[i].1,l[i].2.1,x)):=by
 have hl:=Fk h;rw[rM,J8 h,xb h,List.set_append,aa (by omega),hl,Nat.add_sub_cancel_left]
 rfl
theorem Fl:∀{l:List T3},chunk (some 3) l.length (fG l)=l.map λt=>.agg (t3 t)
 | []=>rfl
 |x::xs=>by
  have e:=Fl (l:=xs);rw[db,<-e];rfl
def rR (x:eO):List eO->List eO
 | []=>[x]
 |y::r=>if aV x.2.2 y.2.2<=0 then x::y::r else y::rR x r
def dq:List eO->List eO
 | []=>[]
 |x::r=>rR x (dq r)
theorem J9 (x:eO):∀l,(rR x l).Perm (x::l)
 | []=>.refl _
 |y::r=>by
  unfold rR;split
  ·exact .refl _
  ·exact((J9 x r).cons y).trans (.swap x y r)
theorem qv:∀l,(dq l).Perm l
 | []=>.refl _
 |x::r=>(J9 x _).trans ((qv r).cons x)
theorem amA (a b:eO):MK (me a) (me b)=decide (aV a.2.2 b.2.2<=0):=by
 show tT aV (iL a.2.2) (iL b.2.2)=_;unfold tT;rw[v8,v8]
theorem Ux (x:eO):∀l:List eO,we (me x) (l.map me)=(rR x l).map me
 | []=>rfl
 |y::r=>by
  simp only[db,we,rR,amA]
  by_cases h:aV x.2.2 y.2.2<=0
  ·rw[ab (by simpa using h),ab h];rfl
  ·rw[aa (by simpa using h),aa h,db,Ux x r]
theorem Uy:∀l:List eO,kg (l.map me)=(dq l).map me
 | []=>rfl
 |x::r=>by simp only[db,kg,dq,Uy r,Ux]
theorem Uz{x:eO}:∀{l:List eO},l.Pairwise (λa b=>aV a.2.2 b.2.2<0)->(∀y∈l,y.2.2 ≠ x.2.2)->(rR x l).Pairwise λa b=>aV a.2.2 b.2.2<0
 | [],_,_=>by simp[rR]
 |y::r,h,hn=>by
  unfold rR;have hy:=hn y (by simp)
  rw[kV]at h;split
  ·rename_i hle
   have aK:aV x.2.2 y.2.2<0:=by
    have:aV x.2.2 y.2.2 ≠ 0:=λe=>hy (dJ.eq _ _ e).symm;omega
   rw[kV,kV];refine⟨λz hz=>?_,h.1,h.2⟩;rcases cB.1 hz with rfl|hz
   ·exact aK
   ·have h1:=h.1 z hz
    have h2:=dJ.trans _ _ _ (show aV x.2.2 y.2.2<=0 by omega) (show aV y.2.2 z.2.2<=0 by omega)
    have h3:aV x.2.2 z.2.2 ≠ 0:=λe=>by
     have e:=dJ.eq _ _ e;rw[<-e]at h1;have:=dJ.gF y.2.2 x.2.2;omega
    omega
  ·rename_i hle
   rw[kV];refine⟨λz hz=>?_,Uz h.2 λz hz=>hn z (by simp[hz])⟩
   rcases cB.1 ((J9 x r).mem_iff.1 hz)with rfl|hz
   ·have:=dJ.gF y.2.2 z.2.2;omega
   ·exact h.1 z hz
theorem Ka:∀{l:List eO},(l.map λc=>c.2.2).Nodup->(dq l).Pairwise λa b=>aV a.2.2 b.2.2<0
 | [],_=>by simp[dq]
 |x::r,h=>by
  rw[db,mD]at h;refine Uz (Ka h.2) λy hy e=>h.1 ?_;rw[cR];exact⟨y,(qv r).mem_iff.1 hy,e⟩
def pA (c:eO):T3:=(.int c.1,.int c.2.1,iL c.2.2)
theorem UA:∀l:List eO,(l.map me).flatMap AV.cells=fG (l.map pA)
 | []=>rfl
 |x::r=>by
  rw[db,jD,UA r];rfl
theorem amB{p q new:List AV}{off:Nat}(h1:p.length=off) (h2:q.length=new.length):putAt (p++q) off new=p++new:=by
 subst h1;unfold putAt;rw[List.take_left' rfl,jH (l:=p++q) (by simp;omega),List.append_nil]
abbrev pP (l:List T3):ag:=⟨some 3,fG l,.live⟩
theorem amC (p q:eO) (hp:(p.2.2.length:Int)<=1000000) (hq:(q.2.2.length:Int)<=1000000):PC zn [me p,me q]=some (.int (aV p.2.2 q.2.2)):=by
 refine cW (ahK rfl ?_);have:=EO p.2.2 q.2.2 (by omega) (by omega)
 simp[me,this]
theorem amD{σ:List ag}{b k:Nat}{l:List eO}(h:ak σ b=some (pP (l.map pA))) (hk:k=l.length) (hl:l.length<=1000) (h0:l ≠ []) (hw:∀c∈l,(c.2.2.length:Int)<=1000000) (hd:(l.map λc=>c.2.2).Nodup):L D7 [.sl b (3*k) 0 k,.func zn []] σ=some (.bQ [],ay σ b (pP ((dq l).map pA))):=by
 subst hk;have hu:upto σ b (3*l.length)=some (pP (l.map pA)):=uM h (by show(fG (l.map pA)).length=_;rw[ll,dR]) rfl
 have hS:=Ka hd;have hp:=qv l;have hc:∀(i j:Nat) x y,((dq l).map me)[i]? = some x->((dq l).map me)[j]? = some y->∃c,iZ (lim Ab.G Q) zn (x::y :: [])=some (.int c)/\(c<0↔i<j):=by
  intro i j x y hx hy;rw[ie]at hx hy;cases bJ : (dq l)[i]? with
  |none=>rw[bJ]at hx;simp at hx
  |some p=>
   cases kj : (dq l)[j]? with
   |none=>rw[kj]at hy;simp at hy
   |some q=>
    rw[bJ]at hx;rw[kj]at hy;simp at hx hy;subst hx hy;refine⟨aV p.2.2 q.2.2,?_,?_⟩
    ·have:=amC p q (hw p (hp.mem_iff.1 (qU bJ))) (hw q (hp.mem_iff.1 (qU kj)))
     unfold iZ;rw[ab (by simp[ax,aN,me])]
     exact this
    ·obtain⟨hi,hpi⟩:=cT.1 bJ
     obtain⟨hj,W2⟩:=cT.1 kj;have hpw:=rr.1 hS;rcases Nat.lt_trichotomy i j with qk|qk|qk
     ·have:=hpw i j hi hj qk
      rw[hpi,W2]at this;exact⟨λ_=>qk,λ_=>this⟩
     ·subst qk
      rw[hpi]at W2;subst W2;have:=dJ.refl p.2.2;omega
     ·have:=hpw j i hj hi qk
      rw[hpi,W2]at this;have h2:=dJ.gF p.2.2 q.2.2;omega
 obtain⟨N,hN⟩:=Y6 nT hc;refine ahJ (N:=N) ?_;have He:¬l.length=0:=λe=>h0 (dW e);have G9:chunk (some 3) l.length (fG (l.map pA))=l.map me:=by
  have:=Fl (l:=l.map pA);rw[dR]at this;rw[this,List.map_map];rfl
 have Lc:putAt (fG (l.map pA)) 0 (fG ((dq l).map pA))=fG ((dq l).map pA):=by
  have:=amB (p:=[]) (q:=fG (l.map pA)) (new:=fG ((dq l).map pA)) (off:=0) rfl (by rw[ll,ll,dR,dR,hp.length_eq])
  simpa using this
 simp only[jm,hu,nI,G9,Uy,UA,Lc];rw[aa (by simpa using He),ab]
 simp only[ll,dR,aD,eP];refine⟨⟨⟨⟨⟨rfl,rfl⟩,by omega⟩,by omega⟩,?_⟩,hN⟩
 show 3*l.length<=1073741824;omega
def neg (c:eO):Bool:=decide (c.2.1<0)
theorem amE (c:eO):PC uK [me c]=some (.bool (neg c)):=by
 refine cW (ahI rfl ?_);simp[me,neg]
theorem amF (l:List eO) (hl:l.length<=1000):PC IF [Lp l,.func uK []]=some (.int (idx neg l)):=by
 refine cW (ah9 rfl ?_);simp[-al];refine bC (λi:Int=>[(2,.int i)]) (λ_=>[]) (λi=>0<=i/\i<=l.length/\∀j,0<=j->j<i->neg (ix l j)=false) (λi=>(l.length-i).toNat) 0 rfl (by simp;omega) λi ⟨h0,h1,h2⟩=>?_
 by_cases hi:i<l.length
 ·have hq:=amE (ix l i)
  simp only[me]at hq;simp[-al,hi,h0,hq,me];exact⟨λh=>(RO h0 hi h h2).symm,λh=>⟨by omega,ba (i+1) (by simp) rfl ⟨by omega,by omega,rI h h2⟩ (by omega)⟩⟩
 ·simp[-al,hi]
  rw[RP λj a b=>h2 j a (by omega)]
theorem amG (l:List eO) (hl:l.length<=1000):LX L Iq [Lp l,.func uK []] [] (λr τ=>r = .bool (l.any neg)):=by
 refine ahH rfl ?_;simp[amF l hl];exact RQ
def iK (c:eO):T3:=(.int c.1,.int c.2.1,if c.2.1<0 then .ah else iL c.2.2)
theorem amH{σ:List ag}{b u n:Nat}{l:List eO}(h:ak σ b=some (pP (l.map iK))) (hn:n=l.length) (hu:u=3*n) (hr:∀c∈l,c.2.1<0->c.2.2=[]):view σ false vd (.sl b u 0 n)=some (Lp l):=by
 subst hu hn;have hu:upto σ b (3*l.length)=some (pP (l.map iK)):=uM h (by show(fG (l.map iK)).length=_;rw[ll,dR]) rfl
 have G9:chunk (some 3) l.length (fG (l.map iK))=l.map λc=>.agg (t3 (iK c)):=by
  have:=Fl (l:=l.map iK);rw[dR]at this;rw[this,List.map_map];rfl
 show view σ false (11+1) _=_;unfold view;simp only[hu,aC,ll,dR,nI];rw[ab (by omega),G9,Jc (g:=me)]
 intro c hc;have:=hr c hc
 by_cases h0:c.2.1<0
 ·have h1:=this h0
  obtain⟨x,y,w⟩:=c;dsimp only at h0 h1;subst h1;simp[t3,iK,h0,me,bV]
 ·obtain⟨x,y,w⟩:=c
  dsimp only at h0;simp[t3,iK,h0,me,bV]
theorem amI{l:List eO}(h:l.any neg=false):l.map iK=l.map pA:=by
 refine gf λc hc=>?_;have:=List.any_eq_false.1 h c hc;simp[neg]at this;simp[iK,pA,show ¬c.2.1<0 by omega]
def Ah:IC:=(.seq (.seq (.ae Rp)
 (.cond 103 (.seq (.ae Rq)
 .ret) .skip))
 (.seq (.seq (.ae Rr) (.lu 6))
 (.seq (.ae Rs)
 .ret)))
theorem amJ{vars:List AV}{fl:Option (Nat×AV)}{σ:List ag}{k b n:Nat}{l:List eO}{Q:Ex->St->Prop}(hb:ak σ b=some (pP (l.map pA))) (hn:nth vars k = .sl b (3*n) 0 n) (hl:n=l.length) (hq:∀τ,(∀c,c ≠ b->ak τ c=ak σ c)->Q .fm ⟨eT vars k (.aE true (l.map me)),fl,τ⟩):W L (.lu k) ⟨vars,fl,σ⟩ Q:=by
 subst hl;have oB:∀x∈fG (l.map pA),Fh x=true:=λx hx=>by
  unfold fG at hx;obtain⟨t,ht,hx⟩:=rq.1 hx;obtain⟨c,_,rfl⟩:=cR.1 ht;simp only[t3,pA,cB,List.not_mem_nil,or_false]at hx;rcases hx with rfl|rfl|rfl<;>rfl
 have hr:reach σ vd (.sl b (3*l.length) 0 l.length) []=[b]:=by
  have:=Fi (σ:=σ) (f:=11) (u:=3*l.length) (o:=0) (n:=l.length) hb oB (acc:=[]);rw[show vd=11+1 from rfl,this];rfl
 have jw:ak (bI (λc=>!([b]:List Nat).contains c) 0 σ) b=some (pP (l.map pA)):=by
  rw[nM,hb];simp
 have hu:∀τ,ak τ b=some (pP (l.map pA))->upto τ b (3*l.length)=some (pP (l.map pA)):=λτ h=>uM h (by show(fG (l.map pA)).length=_;rw[ll,dR]) rfl
 have G9:chunk (some 3) l.length (fG (l.map pA))=l.map me:=by
  have:=Fl (l:=l.map pA);rw[dR]at this;rw[this,List.map_map];rfl
 have hv:view (bI (λc=>!([b]:List Nat).contains c) 0 σ) false vd (.sl b (3*l.length) 0 l.length)=some (Lp l):=by
  have hu:=hu _ jw;generalize bI (λc=>!([b]:List Nat).contains c) 0 σ=τ at *;show view τ false (11+1) _=_;unfold view;simp only[hu,aC,ll,dR,nI];rw[ab (by omega),G9,Jc (g:=me)]
  intro c hc
  rfl
 have hs:gU σ (.sl b (3*l.length) 0 l.length)=true:=by
  simp only[gU,hu σ hb]
 refine⟨0,.fm,_,?_,hq (bI (λc=>([b]:List Nat).contains c) 0 σ) λc hc=>?_⟩
 ·simp only[exec,hn,hr,hv,hs];rfl
 ·rw[nM]
  cases ak σ c with
  |none=>rfl
  |some B=>simp[hc]
abbrev tD:List AV:=[.int 0,.int 0,.int 0,.int 0,.int 0,.ah,.ah,.ah,.ah,.ah]
theorem amK{D:Vd}{cls:List Int}{l:List eO}{σ:List ag}{b:Nat}{Gx Gy Gz GA:AV}{K:AV->List ag->Prop}(h0:ak σ 0=some ⟨some 10,tD,.live⟩) (hb:ak σ b=some (pP (l.map iK))) (mZ:b ≠ 0) (hr:∀c∈l,c.2.1<0->c.2.2=[]) (hl:l.length<=128) (He:l ≠ []) (hw:∀c∈l,c.2.2.length<=1024)
  (h1:l.any neg=true->∀τ,K (.bQ [.agg tD,.int 3]) τ)
  (h2:l.any neg=false->(l.map λc=>c.2.2).Nodup/\WU D cls (dq l)/\∀(st:List Int) (τ:List ag),st.length=l.length->(∀i:Nat,i<l.length->ix st (vO (dq l) i)=i)->K (.bQ [(tC D cls (dq l) st).av,.int 0]) τ) :
  WK L Ah [.aM,.aM,.aM,.ptr 0 10 0,D.vcs.av,.aM,.sl b (3*l.length) 0 l.length,.aM,.aM,.aM,.aM,Gx,Gy,Gz,iL cls,.aM,GA,.aM,.aM,.aM] none σ (gX rG K):=by
 unfold Ah;have pH:=amH hb rfl rfl hr;obtain⟨rc,τc,jM,rfl⟩:=dS (amG l (by omega))
 have Wc:view σ false vd (.func uK [])=some (.func uK []):=rfl;have ij:∀(τ:List ag) (B:ag),ak τ 0=some ⟨some 10,tD,.live⟩->ak (ay τ 0 B) 0=some B:=λτ B h=>cE (by have:=dz h;omega)
 have vA:=λ(ce:CE) (τ:List ag) (h:ak τ 0=some ⟨some 10,tD,.live⟩) (c0 c1 c2 c3 c4 c5 c6 c7 c8 c9:AV)=>rQ (ce:=ce) (σ:=ay τ 0 ⟨some 10,[c0,c1,c2,c3,c4,c5,c6,c7,c8,c9],.live⟩) (n:=0) (ij τ _ h)
 by_cases hn:l.any neg=true
 ·rw[hn]at jM
  have tE:=λce=>vA ce σ h0;simp[-al,pH,Wc,jM,h0,tE];exact h1 hn _
 ·have hn:l.any neg=false:=by simpa using hn
  rw[hn]at jM;obtain⟨hd,eX,hK⟩:=h2 hn;rw[amI hn]at hb;have Gd:=amD hb rfl (by omega) He (λc hc=>by have:=hw c hc;omega) hd
  simp[-al,pH,Wc,jM,Gd];have hp:=qv l;refine amJ (b:=b) (l:=dq l) (cE (dz hb)) rfl hp.length_eq.symm λτ uQ=>?_;have qi : ak τ 0=some ⟨some 10,tD,.live⟩:=by
   rw[uQ 0 (Ne.symm mZ),aO mZ];exact h0
  obtain⟨st,hau,r7,xz⟩:=amr D cls (dq l) eX;have tE:=λce=>vA ce τ qi;simp[-al,hau,qi, tE];exact hK st _ (r7.trans hp.length_eq) λi hi=>xz i (by rw[hp.length_eq];exact hi)
end Ab
