/- The single-entry automaton of classes: the program; and what it leans on. Condition: none. -/
import Derived.Test.YtdenhmniigikcaaGreatS44F
set_option linter.all false
set_option maxRecDepth 100000
set_option maxHeartbeats 4000000
namespace Ab
structure pR (D:Vd) (l:List gN) (st:List Int) (b:Nat) (A:al) (σ:List ah):Prop where
 m:AS A (λt=>fp (D.n.ay l.length) t+2) σ
 b:ak σ b=some ⟨some 10,[.int D.n.calls,.int D.n.af,.int D.n.aj,.int ((D.n.ay l.length:Nat):Int),.int 0,.sl 3 l.length 0 l.length,.sl (6+D.n.ay l.length+2) l.length 0 l.length,.sl (7+D.n.ay l.length+2) l.length 0 l.length,.sl (9+D.n.ay l.length+2) l.length 0 l.length,.sl (10+D.n.ay l.length+2) l.length 0 l.length],.live⟩
 s:ak σ 1=some (Zb st)
 z:ak σ 0=some ⟨some 10,[.int 0,.int 0,.int 0,.int 0,.int 0,.ae,.ae,.ae,.ae,.ae],.live⟩
variable{D:Vd}{l:List gN}{st:List Int}{b:Nat}{A:al}{σ:List ah}
theorem pR.acc(h:pR D l st b A σ) (U:3<b){w:List Bool}:pR D l st b {A with accept:=w} (ar σ 3 ⟨none,w.map .bool,.live⟩):=
 ⟨h.m.mh,by rw[aK (by omega)];exact h.b,by rw[aK (by omega)];exact h.s,by rw[aK (by omega)];exact h.z⟩
variable{s:Nat}{w:List Int}
theorem pR.aH(h:pR D l st b A σ)(U:s<A.inner.length) (V:fp (D.n.ay l.length) (.rw .aH s)+2<b)(hl:w.length=(A.bp .aH s).length):pR D l st b {A with inner:=A.inner.set s w} (ar σ (fp (D.n.ay l.length) (.rw .aH s)+2) (Zb w)):=
 ⟨h.m.mi U hl,by rw[aK (by omega)];exact h.b,by rw[aK (by omega)];exact h.s,by rw[aK (by omega)];exact h.z⟩
theorem pR.pop(h:pR D l st b A σ){g:Nat}(U:s<A.pop.length) (V:g<(A.bt s).length) (hb:fp (D.n.ay l.length) (.pg s g)+2<b)(hl:w.length=(A.cx s g).length):pR D l st b {A with pop:=A.pop.set s ((A.bt s).set g w)} (ar σ (fp (D.n.ay l.length) (.pg s g)+2) (Zb w)):=
 ⟨h.m.mj U V hl,by rw[aK (by omega)];exact h.b,by rw[aK (by omega)];exact h.s,by rw[aK (by omega)];exact h.z⟩
variable{cls:List Int}{a J R:Nat}
theorem pR.ls{G:Nat}(h:pR D l st b A σ) (U:lS D cls l st a s J G R A) (V:l.length ≠ 0):ak σ (9+D.n.ay l.length+2)=some ⟨none,(List.range l.length).map λi=>gM (fp (D.n.ay l.length) (.rw .aH i)+2) D.n.af.toNat,.live⟩:=by
 have:=h.m.has (.ls .aH) _ (aa λe=>by have:=U.li;rw[show A.inner=[]from e]at this;exact V this.symm)
 rw[show ak σ (9+D.n.ay l.length+2)=_ from this];rw[show(A.tb .aH).length=l.length from U.li]
 congr 2
 exact fv λi hi=>by rw[U.ph i (bT.1 hi)]
theorem pR.po{G:Nat}(h:pR D l st b A σ) (U:lS D cls l st a s J G R A) (V:l.length ≠ 0):ak σ (10+D.n.ay l.length+2)=some ⟨none,(List.range l.length).map λi=>gM (fp (D.n.ay l.length) (.pr i)+2) (D.n.ay l.length),.live⟩:=by
 have:=h.m.has .po _ (aa λe=>by have:=U.lp;rw[e]at this;exact V this.symm)
 rw[show ak σ (10+D.n.ay l.length+2)=_ from this];rw[U.lp]
 congr 2
 exact fv λi hi=>by rw[U.mq i (bT.1 hi)]
variable{i:Nat}
theorem pR.pr{G:Nat}(h:pR D l st b A σ) (U:lS D cls l st a s J G R A)(hi:i<l.length):ak σ (fp (D.n.ay l.length) (.pr i)+2)=some ⟨none,(List.range (D.n.ay l.length)).map λg=>gM (fp (D.n.ay l.length) (.pg i g)+2) D.n.aj.toNat,.live⟩:=by
 have:=h.m.has (.pr i) _ (ab (by rw[U.lp];exact hi))
 rw[this,U.mq i hi]
 congr 2
 exact fv λg V=>by rw[U.pj i g hi (bT.1 V)]
theorem akp (D:Vd) (cls:List Int) (l:List gN) (h:UQ D cls l) :
  LX L AQ [D.vcs.av,iL cls,Ka l] [] (λr τ=>∃st:List Int,bV τ false r=some (r6 D cls l st).av/\st.length=l.length/\∀i:Nat,i<l.length->ix st (uB l i)=i):=by
 refine aga rfl ?_;obtain⟨UH,wR⟩:=h.k;simp[-ag,-List.map_replicate];refine⟨by omega,?_⟩
 refine aM (λq:Nat×List Int=>[(3,.int q.1)]) (λq=>[⟨some 10,[.int 0,.int 0,.int 0,.int 0,.int 0,.ae,.ae,.ae,.ae,.ae],.live⟩,Zb q.2]) (λq=>q.1<=l.length/\q.2.length=l.length/\∀i:Nat,i<q.1->ix q.2 (uB l i)=i) (λq=>l.length-q.1) (0,List.replicate l.length 0) (by simp[a8]) ⟨by simp,by simp,λi hi=>by dsimp only at hi;omega⟩ ?_
 rintro⟨i,st⟩ ⟨i0,J,P⟩;dsimp only at i0 J P ⊢
 by_cases hi:i<l.length
 .have hc:=h.c _ (aO (l:=l) (n:=(i:Int)) (by omega) (by omega))
  simp[-ag,-List.map_replicate,hi,lK];refine⟨hc,J,by omega,by omega,az (i+1,st.set (ix l (i:Int)).1.toNat i) (by simp) (by simp[List.map_set]) ⟨by dsimp only;omega,by simp[J],λj hj=>?_⟩ (by dsimp only;omega)⟩
  dsimp only at hj ⊢;have US:=h.c _ (aO (l:=l) (n:=(j:Int)) (by omega) (by omega))
  rw[yk (show 0<=uB l j from US.1) (by rw[J];exact US.2)]
  by_cases e:j=i
  .subst e;rw[ab (by unfold uB;omega)]
  .rw[aa,P j (by omega)]
   intro R;have hjl:j<l.length:=by omega
   have h1:(l.map λc=>c.1)[j]'(by simpa using hjl)=(l.map λc=>c.1)[i]'(by simpa using hi):=by
    rw[k9,k9,<-aG hjl,<-aG hi];unfold uB at R;omega
   exact e ((List.getElem_inj h.nd).1 h1)
 .have ei:i=l.length:=by omega
  subst ei;obtain⟨rv,τ,hF,RP,hA⟩:=dh (RN D.n h.vo.ok l.length wR h.kc);have RQ:=RO (D:=D) (cls:=cls) (st:=st) (l:=l);rw[RQ.bM (by omega)]at RP
  subst RP;have RR : L vt [.agg [.int D.n.calls,.int D.n.af,.int D.n.aj,.int D.n.stack,.int D.n.start,.au false (D.n.accept.map .bool),.au false (D.n.call.map iL),.au false (D.n.push.map iL),.au false (D.n.inner.map iL),.au false (D.n.pop.map bN)],.int l.length] []=some (.agg [.int D.n.calls,.int D.n.af,.int D.n.aj,.int ((D.n.ay l.length:Nat):Int),.int 0,.sl 1 l.length 0 l.length,.sl (6+D.n.ay l.length) l.length 0 l.length,.sl (7+D.n.ay l.length) l.length 0 l.length,.sl (9+D.n.ay l.length) l.length 0 l.length,.sl (10+D.n.ay l.length) l.length 0 l.length],τ):=hF;have IA:=hA.shift [⟨some 10,[.int 0,.int 0,.int 0,.int 0,.int 0,.ae,.ae,.ae,.ae,.ae],.live⟩,Zb st];obtain⟨a,u⟩:∃s,([⟨some 10,[.int 0,.int 0,.int 0,.int 0,.int 0,.ae,.ae,.ae,.ae,.ae],.live⟩,Zb st]:List ah)++τ.map (gm 2)=s:=⟨_,rfl⟩;have e1:∀Y:List ah,(⟨some 10,[.int 0,.int 0,.int 0,.int 0,.int 0,.ae,.ae,.ae,.ae,.ae],.live⟩:ah)::⟨none,st.map .int,.live⟩::(τ.map (gm 2)++Y)=a++Y:=λY=>by rw[<-u];rfl
  have R:τ.length+1+1=a.length:=by rw[<-u];simp
  have H:AS (D.n.dH l.length l.length) (λt=>fp (D.n.ay l.length) t+2) a:=by rw[<-u];exact IA
  have eb:∀Y:ah,ak (a ++ [Y]) a.length=some Y:=λY=>gJ;have es:∀Y Z:ah,ar (a ++ [Y]) a.length Z=a ++ [Z]:=λY Z=>yI;have G:ak a 1=some (Zb st):=by rw[<-u];rfl
  have akq:ak a 0=some ⟨some 10,[.int 0,.int 0,.int 0,.int 0,.int 0,.ae,.ae,.ae,.ae,.ae],.live⟩:=by rw[<-u];rfl
  simp[-ag,-List.map_replicate,RR, iW,km,e1,R,eb,es];have e3:∀Y Z:ah,(⟨some 10,[.int 0,.int 0,.int 0,.int 0,.int 0,.ae,.ae,.ae,.ae,.ae],.live⟩:ah)::⟨none,st.map .int,.live⟩::ar (τ.map (gm 2) ++ [Y]) τ.length Z=a ++ [Z]:=λY Z=>by
   rw[show ar (τ.map (gm 2) ++ [Y]) τ.length Z=τ.map (gm 2) ++ [Z]from by have:=yI (Q:=τ.map (gm 2)) (B:=Y) (C:=Z);rwa [cY]at this,e1]
  simp only[e3];clear es eb e1 R e3 RR hF;have pac:=H.lt (t:=.ac) rfl;have prw:∀s,s<l.length->fp (D.n.ay l.length) (.rw .aH s)+2<a.length:=λs P=>H.lt (t:=.rw .aH s) (ab (by rw[ml];exact P))
  have ppg:∀s g,s<l.length->g<D.n.ay l.length->fp (D.n.ay l.length) (.pg s g)+2<a.length:=λs g P hg=>H.lt (t:=.pg s g) (ab ⟨by rw[mm];exact P,by rw[(ki P).2.2.2];simpa using hg⟩)
  refine aM (λq:Nat×al×List ah=>[(9,.int q.1)]) (λq=>q.2.2) (λq=>q.1<=l.length/\lS D cls l st q.1 q.1 0 0 0 q.2.1/\pR D l st a.length q.2.1 q.2.2) (λq=>l.length-q.1) (0,D.n.dH l.length l.length,a ++ [⟨some 10,[.int D.n.calls,.int D.n.af,.int D.n.aj,.int ((D.n.ay l.length:Nat):Int),.int 0,.sl 3 l.length 0 l.length,.sl (6+D.n.ay l.length+2) l.length 0 l.length,.sl (7+D.n.ay l.length+2) l.length 0 l.length,.sl (9+D.n.ay l.length+2) l.length 0 l.length,.sl (10+D.n.ay l.length+2) l.length 0 l.length],.live⟩]) (by simp[a8]) ⟨by simp,RQ,H.other λt B hB=>fV (H.lt hB),gJ,fU G,fU akq⟩ ?_
  rintro⟨s,A,σ⟩ ⟨s0,hT,hM⟩;dsimp only at s0 hT hM ⊢;have RS:=hM.b;have IH:=hM.z
  by_cases d:s<l.length
  .have hv:=h.v _ (aO (l:=l) (n:=(s:Int)) (by omega) (by omega))
   have Kb:=hM.m.has .ac _ rfl;have hK:=h.vo.st _ (aO (l:=D.K) hv.1 hv.2);have uM:=h.s0;have M:=h.s1;unfold Vd.ij at M;have hn:=h.vo.ok;have hK1:=hK.1 _ (aO (l:=ix D.K (ix l (s:Int)).2.1) M.1 (by rw[hK.2];exact M.2))
   rw[show fp (D.n.ay l.length) .ac+2=3 from rfl]at Kb pac;have RT:=hT.la;simp[-ag,-List.map_replicate,d,lK,RS,Kb,hv,hK,uM,M,hK1,hn.start,RT];have jY:=h.vn.inl (ix l (s:Int)).2.1.toNat (by omega)
   rw[show(((ix l (s:Int)).2.1.toNat:Nat):Int)=(ix l (s:Int)).2.1 by omega]at jY
   have Uk:=h.vn.f.i;have hfb:=h.vn.f.b;have Af:=h.vn.n;have Cz:=h.vn.c;have UD:=h.vn.r;refine⟨by omega,?_⟩
   have hT1:=hT.mh d;have hM1:=hM.acc pac (w:=A.accept.set s (D.ac D.ij (vJ l s)));rw[List.map_set]at hM1;have S:∀y,0<=y->y<(D.K.length:Int)->0<=ix cls y/\ix cls y<(st.length:Int):=λy y0 y1=>by
    have:=h.cr _ (aO (l:=cls) y0 (by rw[h.cl];exact y1))
    rw[J];exact this
   refine aM (λq:Nat×al×List ah=>[(15,.int q.1)]) (λq=>q.2.2) (λq=>q.1<=D.n.af.toNat/\lS D cls l st (s+1) s q.1 0 0 q.2.1/\pR D l st a.length q.2.1 q.2.2) (λq=>D.n.af.toNat-q.1) (0,_,_) (by simp[a8];rfl) ⟨by simp,hT1,hM1⟩ ?_
   rintro⟨j,A2,J7⟩ ⟨j0,x,F⟩;dsimp only at j0 x F ⊢;have akr:=F.b;have R:ix (List.range l.length) (s:Int)=s:=by rw[aG (by simpa using d)];simp
   have e3:ix (List.range l.length) (0+(s:Int)*1)=s:=by rw[<-R];congr 1;omega
   by_cases hj:j<D.n.af.toNat
   .have U:=aB (show(j:Int)<(((ix D.IN (ix l (s:Int)).2.1).length:Nat):Int)by omega)
    have V:=jY.2 _ (aO (l:=ix D.IN (ix l (s:Int)).2.1) (n:=(j:Int)) (by omega) (by omega))
    have I:=S _ V.1 V.2;have II:=F.ls x (by omega)
    have BC:=F.m.has (.rw .aH s) _ (ab (by rw[show(A2.tb .aH).length=l.length from x.li];exact d))
    have qC:=x.ph s d;have W:=F.s;have X:=h.cl;simp[-ag,-List.map_replicate,U,akr,II,d,R,e3,BC,jQ,W];refine⟨by rw[X];exact V,⟨I.1,by rw[<-J];exact I.2⟩,J,by omega,by omega,qC,by omega,by omega,az (j+1,{A2 with inner:=A2.inner.set s ((A2.bp .aH s).set j (BZ D cls l st s j))},ar J7 (fp (D.n.ay l.length) (.rw .aH s)+2) (Zb ((A2.bp .aH s).set j (BZ D cls l st s j)))) (by simp) ?_ ⟨by dsimp only;omega,x.mi d hj,F.aH (by rw[x.li];exact d) (prw s d) (by simp)⟩ (by dsimp only;omega)⟩
    dsimp only;rw[Zb,List.map_set];rfl
   .have U:=dN (show ¬(j:Int)<(((ix D.IN (ix l (s:Int)).2.1).length:Nat):Int)by omega)
    have ej:j=D.n.af.toNat:=by omega
    rw[ej]at x;simp[-ag,-List.map_replicate,U];refine aM (λq:Nat×al×List ah=>[(20,.int q.1)]) (λq=>q.2.2) (λq=>q.1<=l.length/\lS D cls l st (s+1) s D.n.af.toNat (q.1*D.n.calls.toNat) 0 q.2.1/\pR D l st a.length q.2.1 q.2.2) (λq=>l.length-q.1) (0,A2,J7) (by simp[a8]) ⟨by simp,by simpa using x,F⟩ ?_
    rintro⟨p,A3,UI⟩ ⟨p0,N,hM3⟩;dsimp only at p0 N hM3 ⊢
    by_cases hp:p<l.length
    .have hvp:=h.v _ (aO (l:=l) (n:=(p:Int)) (by omega) (by omega))
     simp[-ag,-List.map_replicate,hp,lK];refine aM (λq:Nat×al×List ah=>[(23,.int q.1)]) (λq=>q.2.2) (λq=>q.1<=D.n.calls.toNat/\lS D cls l st (s+1) s D.n.af.toNat (p*D.n.calls.toNat+q.1) 0 q.2.1/\pR D l st a.length q.2.1 q.2.2) (λq=>D.n.calls.toNat-q.1) (0,A3,UI) (by simp[a8]) ⟨by simp,N,hM3⟩ ?_
     rintro⟨c,A4,J8⟩ ⟨c0,O,hM4⟩;dsimp only at c0 O hM4 ⊢
     by_cases hc:c<D.n.calls.toNat
     .have C8:=aB (show(c:Int)<D.n.calls by omega)
      have UC:=h.vn.qA (ix l (p:Int)).2.1.toNat c (ix l (s:Int)).2.1.toNat (by omega) hc (by omega)
      unfold Vd.bM Vd.row at UC;rw[show(((ix l (p:Int)).2.1.toNat:Nat):Int)=(ix l (p:Int)).2.1 by omega,show(((ix l (s:Int)).2.1.toNat:Nat):Int)=(ix l (s:Int)).2.1 by omega]at UC
      have CG:=h.vn.rl (ix l (p:Int)).2.1.toNat (by omega)
      unfold Vd.row at CG;have D9:=h.vn.f.c (ix l (p:Int)).2.1.toNat c (by omega) hc
      unfold Vd.bM Vd.row at D9;rw[show(((ix l (p:Int)).2.1.toNat:Nat):Int)=(ix l (p:Int)).2.1 by omega]at CG D9
      have x1:=aB (show(ix l (p:Int)).2.1<(D.BL.length:Int)by omega)
      have x2:=aB (show(c:Int)<((ix D.BL (ix l (p:Int)).2.1).length:Int)by omega)
      have x3:=aB (show(ix l (s:Int)).2.1<((ix (ix D.BL (ix l (p:Int)).2.1) (c:Int)).length:Int)by omega)
      have y1:=aB hvp.1;have y2:=aB hv.1;simp[-ag,-List.map_replicate,C8,x1,x2,x3,y1,y2];refine aM (λq:Nat×al×List ah=>[(27,.int q.1)]) (λq=>q.2.2) (λq=>q.1<=D.n.aj.toNat/\lS D cls l st (s+1) s D.n.af.toNat (p*D.n.calls.toNat+c) q.1 q.2.1/\pR D l st a.length q.2.1 q.2.2) (λq=>D.n.aj.toNat-q.1) (0,A4,J8) (by simp[a8]) ⟨by simp,O,hM4⟩ ?_
      rintro⟨r,A5,σ5⟩ ⟨r0,o,E⟩;dsimp only at r0 o E ⊢
      by_cases hr:r<D.n.aj.toNat
      .have C9:=aB (show(r:Int)<(((ix (ix (ix D.BL (ix l (p:Int)).2.1) (c:Int)) (ix l (s:Int)).2.1).length:Nat):Int)by omega)
       have V:=UC.2 _ (aO (l:=ix (ix (ix D.BL (ix l (p:Int)).2.1) (c:Int)) (ix l (s:Int)).2.1) (n:=(r:Int)) (by omega) (by omega))
       have I:=S _ V.1 V.2;have aks:=E.b;have C4:=E.po o (by omega)
       have B3:=E.pr o d;have W:=E.s;have X:=h.cl;have hG:p*D.n.calls.toNat+c<D.n.ay l.length:=by
        have h1:p*D.n.calls.toNat+D.n.calls.toNat<=l.length*D.n.calls.toNat:=by rw[<-Nat.succ_mul];exact kS _ (by omega)
        show _<max 1 (l.length*D.n.calls.toNat);omega
       have hGi:(p:Int)*D.n.calls+(c:Int)=((p*D.n.calls.toNat+c:Nat):Int):=by rw[Int.natCast_add,iI];congr 2;omega
       have Ic:D.n.ay l.length<=128:=by have:=h.kc;show max 1 (l.length*D.n.calls.toNat)<=128;omega
       have IJ:=E.m.has (.pg s (p*D.n.calls.toNat+c)) _ (ab ⟨by rw[o.lp];exact d,by rw[o.mq s d];exact hG⟩)
       have sF:=o.pj s _ d hG;have HZ:0<=(p:Int)*D.n.calls/\(p:Int)*D.n.calls<=128:=by
        have:(p:Int)*D.n.calls=((p*D.n.calls.toNat:Nat):Int):=by rw[iI];congr 1;omega
        omega
       have UT:tO D cls l st s (p*D.n.calls.toNat+c) r=ix st (ix cls (ix (ix (ix (ix D.BL (ix l (p:Int)).2.1) (c:Int)) (ix l (s:Int)).2.1) (r:Int))):=by
        unfold tO;rw[aa (by omega),show(p*D.n.calls.toNat+c)/D.n.calls.toNat=p from by rw[jd,Nat.mul_add_div (by omega),rf hc,lW],show(p*D.n.calls.toNat+c)%D.n.calls.toNat=c from by rw[jd,Nat.mul_add_mod,pZ hc]]
        rfl
       have hTn:=o.mj d hG hr;have hMn:=E.pop (w:=(A5.cx s (p*D.n.calls.toNat+c)).set r (tO D cls l st s (p*D.n.calls.toNat+c) r)) (by rw[o.lp];exact d) (by rw[o.mq s d];exact hG) (ppg s _ d hG) (by simp)
       have f2:ix (List.range (D.n.ay l.length)) ((p*D.n.calls.toNat+c:Nat):Int)=p*D.n.calls.toNat+c:=by rw[aG (by simpa using hG)];simp
       generalize p*D.n.calls.toNat+c=g at *;have f3:ix (List.range (D.n.ay l.length)) (0+(g:Int)*1)=g:=by rw[<-f2];congr 1;rw[f2];omega
       simp[-ag,-List.map_replicate,C9,aks,C4,d,R,e3,B3,hGi,f2,f3,hG,IJ,W];refine⟨by omega,by omega,by rw[X];exact V,⟨I.1,by rw[<-J];exact I.2⟩,J,by omega,by omega,sF,by omega,by omega,az (r+1,_,_) (by simp) ?_ ⟨by dsimp only;omega,hTn,hMn⟩ (by dsimp only;omega)⟩
       dsimp only;rw[Zb,List.map_set,UT]
      .have C9:=dN (show ¬(r:Int)<(((ix (ix (ix D.BL (ix l (p:Int)).2.1) (c:Int)) (ix l (s:Int)).2.1).length:Nat):Int)by omega)
       have er:r=D.n.aj.toNat:=by omega
       rw[er]at o;simp[-ag,-List.map_replicate,C9];exact⟨by omega,az (c+1,A5,σ5) (by simp) rfl ⟨by dsimp only;omega,o.yJ,E⟩ (by dsimp only;omega)⟩
     .have C8:=dN (show ¬(c:Int)<D.n.calls by omega)
      have ec:c=D.n.calls.toNat:=by omega
      have epc:p*D.n.calls.toNat+c=(p+1)*D.n.calls.toNat:=by rw[ec,eX,Nat.one_mul]
      rw[epc]at O;simp[-ag,-List.map_replicate,C8];exact⟨by omega,az (p+1,A4,J8) (by simp) rfl ⟨by dsimp only;omega,O,hM4⟩ (by dsimp only;omega)⟩
    .have ep:p=l.length:=by omega
     rw[ep]at N;simp[-ag,-List.map_replicate,hp];exact⟨by omega,az (s+1,A3,UI) (by simp) rfl ⟨by dsimp only;omega,N.yK,hM3⟩ (by dsimp only;omega)⟩
  .have es:s=l.length:=by omega
   subst es;have G:∀B:ah,ak (ar σ 0 B) 0=some B:=λB=>cv (by have:=dw IH;omega)
   have Aa:=λ(ce:CE) (c0 c1 c2 c3 c4 c5 c6 c7 c8 c9:AV)=>qD (ce:=ce) (σ:=ar σ 0 ⟨some 10,[c0,c1,c2,c3,c4,c5,c6,c7,c8,c9],.live⟩) (n:=0) (G _);have J6:=λB:ah=>(hM.m.other (τ:=ar σ 0 B) λt C hC=>aK (by omega)).view
   rw[hT.fin]at J6;have T:=hT.bM (by omega) (λt=>fp (D.n.ay l.length) t+2)
   rw[hT.fin]at T;rw[T]at J6;simp[-ag,-Aq,RS,IH,G,Aa];exact⟨st,J6 _,J,P⟩
theorem akt (D:Vd) (cls:List Int) (l:List gN) (h:UQ D cls l):∃st:List Int,PC AQ [D.vcs.av,iL cls,Ka l]=some (r6 D cls l st).av/\st.length=l.length/\∀i:Nat,i<l.length->ix st (uB l i)=i:=BS (g:=λst:List Int=>(r6 D cls l st).av) (R:=λst=>st.length=l.length/\∀i:Nat,i<l.length->ix st (uB l i)=i) (akp D cls l h)
def B4:AV->Bool
 |.sl ..=>false
 |.ptr ..=>false
 |.agg _=>false
 |.bF _=>false
 |.func ..=>false
 |.iface ..=>false
 |_=>true
variable{f:Nat}{x:AV}
theorem IK(h:B4 x=true){acc:List Nat}:reach σ f x acc=acc:=by
 cases f with
 |zero=>rfl
 |succ f=>cases x<;>first|rfl|(simp[B4]at h)
theorem IL{σ:List ah}{f:Nat}:∀(l:List AV) (acc:List Nat),(∀x∈l,B4 x=true)->l.foldl (λacc y=>reach σ f y acc) acc=acc
 | [],_,_=>rfl
 |x::l,acc,h=>by
  rw[l0,IK (h x (by simp))]
  exact IL l acc λy a=>h y (by simp[a])
variable{u o n:Nat}{B:ah}
theorem RU(a:ak σ b=some B){acc:List Nat}(d:b∉acc):reach σ (f+1) (.sl b u o n) acc=B.cells.foldl (λacc y=>reach σ f y acc) (b::acc):=by
 simp only[reach,a];rw[aa (by simpa using d)]
theorem RV(a:ak σ b=some B){acc:List Nat}(d:b∉acc):reach σ (f+1) (.ptr b u o) acc=B.cells.foldl (λacc y=>reach σ f y acc) (b::acc):=by
 simp only[reach,a];rw[aa (by simpa using d)]
theorem B5(a:ak σ b=some B) (h:∀x∈B.cells,B4 x=true){acc:List Nat}:reach σ (f+1) (.sl b u o n) acc=if acc.contains b then acc else b::acc:=by
 simp only[reach,a];rw[IL _ _ h]
theorem IM{acc:List Nat}:b∈(if acc.contains b then acc else b::acc)/\∀x,(x∈acc->x∈(if acc.contains b then acc else b::acc))/\(x∈(if acc.contains b then acc else b::acc)->x∈acc\/x=b):=by
 by_cases h:acc.contains b=true
 .rw[ab h]
  exact⟨by simpa using h,λx=>⟨id,.inl⟩⟩
 .rw[aa h]
  exact⟨by simp,λx=>⟨λa=>by simp[a],λa=>by rcases b5.1 a with a|a;exact .inr a;exact .inl a⟩⟩
theorem IP{b e:Type}{g:Nat->e}{f:b->e->b}{I:Nat->b->Prop}:∀(n:Nat) (a:b),I 0 a->(∀k a,k<n->I k a->I (k+1) (f a (g k)))->I n (((List.range n).map g).foldl f a)
 |0,a,d,_=>d
 |n+1,a,d,h=>by
  rw[gw,jK,List.foldl_append];exact h n _ (by omega) (IP n a d λk a i=>h k a (by omega))
def Tg.seen:Tg->Bool
 |.mp=>false
 |.old _=>false
 |_=>true
theorem RX(i:n ≠ 0->ak σ b=some B) (h:∀x∈B.cells,B4 x=true){acc:List Nat}:(n ≠ 0->b∈reach σ (f+1) (cE b n) acc)/\∀x,(x∈acc->x∈reach σ (f+1) (cE b n) acc)/\(x∈reach σ (f+1) (cE b n) acc->x∈acc\/n ≠ 0/\x=b):=by
 by_cases d:n=0
 .subst d
  exact⟨λh=>absurd rfl h,λx=>⟨id,.inl⟩⟩
 .rw[show cE b n = .sl b n 0 n from aa d,B5 (i d) h]
  obtain⟨j,g⟩:=IM (b:=b) (acc:=acc);exact⟨λ_=>j,λx=>⟨(g x).1,λa=>((g x).2 a).imp id λe=>⟨d,e⟩⟩⟩
variable{O:Nat->Option ah}{p:Tg->Nat}
theorem aku(h:VS D O p σ){x:Nat}(q:x<D.BL.length){acc:List Nat}(m:p (.rw x)∉acc) :
  (p (.rw x)∈reach σ (f+2) (.sl (p (.rw x)) u o n) acc/\∀c,c<(D.row x).length->D.bM x c ≠ []->p (.cl x c)∈reach σ (f+2) (.sl (p (.rw x)) u o n) acc)/\∀b,(b∈acc->b∈reach σ (f+2) (.sl (p (.rw x)) u o n) acc)/\(b∈reach σ (f+2) (.sl (p (.rw x)) u o n) acc->b∈acc\/b=p (.rw x)\/∃c B,D.cont O p (.cl x c)=some B/\b=p (.cl x c)):=by
 have d:=h.has (.rw x) _ (ab q);have e:reach σ (f+2) (.sl (p (.rw x)) u o n) acc=((List.range (D.row x).length).map λc=>cE (p (.cl x c)) (D.bM x c).length).foldl (λacc y=>reach σ (f+1) y acc) (p (.rw x)::acc):=by
  show reach σ ((f+1)+1) _ _=_;simp only[reach,d];rw[aa (by simpa using m)]
  rfl
 rw[e];have key:=IP (g:=λc=>cE (p (.cl x c)) (D.bM x c).length) (f:=λacc y=>reach σ (f+1) y acc) (I:=λk a=>(∀c,c<k->D.bM x c ≠ []->p (.cl x c)∈a)/\∀b,(b∈p (.rw x)::acc->b∈a)/\(b∈a->b∈p (.rw x)::acc\/∃c B,D.cont O p (.cl x c)=some B/\b=p (.cl x c))) (D.row x).length (p (.rw x)::acc) ⟨λc z=>by omega,λb=>⟨id,.inl⟩⟩ λk a w ⟨i1,j⟩=>by
  have r:(D.bM x k).length ≠ 0->ak σ (p (.cl x k))=some ⟨none,(D.bM x k).map wI,.live⟩:=λi=>h.has (.cl x k) _ (ab ⟨q,w,λe=>i (by rw[e];rfl)⟩)
  obtain⟨A,s⟩:=RX (σ:=σ) (f:=f) r (λy C=>by obtain⟨l,_,rfl⟩:=cB.1 C;rfl) (acc:=a)
  refine⟨λc z i=>?_,λb=>⟨λd=>(s b).1 ((j b).1 d),λd=>?_⟩⟩
  .by_cases ec:c=k
   .subst ec;exact A λe=>i (dM e)
   .exact(s _).1 (i1 c (by omega) i)
  .rcases(s b).2 d with d|⟨i,rfl⟩
   .exact(j b).2 d
   .exact .inr ⟨k,_,ab ⟨q,w,λe=>i (by rw[e];rfl)⟩,rfl⟩
 generalize ((List.range (D.row x).length).map λc=>cE (p (.cl x c)) (D.bM x c).length).foldl (λacc y=>reach σ (f+1) y acc) (p (.rw x)::acc)=a at *;obtain⟨i1,j⟩:=key;refine⟨⟨(j _).1 (by simp),i1⟩,λb=>⟨λd=>(j b).1 (by simp[d]),λd=>?_⟩⟩
 rcases(j b).2 d with d|d
 .rcases b5.1 d with d|d
  .exact .inr (.inl d)
  .exact .inl d
 .exact .inr (.inr d)
theorem akv(h:VS D O p σ):(∀t B,t.seen=true->D.cont O p t=some B->p t∈reach σ vd (.ptr (p .v) 16 0) [])/\∀b,b∈reach σ vd (.ptr (p .v) 16 0) []->∃t B,t.seen=true/\D.cont O p t=some B/\b=p t:=by
 have hv:=h.has .v _ rfl;have R:=h.has .pl _ rfl;have S:=h.has .ls _ rfl;have e0:reach σ vd (.ptr (p .v) 16 0) []=(D.box p).cells.foldl (λacc y=>reach σ 11 y acc) [p .v]:=by
  exact RV (f:=11) hv (by simp)
 have e1:(D.box p).cells.foldl (λacc y=>reach σ 11 y acc) [p .v]=reach σ 11 (cE (p .bl) D.BL.length) (reach σ 11 (cE (p .aH) D.IN.length) (reach σ 11 (.sl (p .ls) D.K.length 0 D.K.length) (reach σ 11 (.sl (p .pl) D.plc.length 0 D.plc.length) [p .v]))):=rfl;rw[e0,e1,B5 (f:=10) R (λy H=>by obtain⟨l,_,rfl⟩:=cB.1 H;rfl),B5 (f:=10) S (λy H=>by obtain⟨l,_,rfl⟩:=cB.1 H;rfl)]
 obtain⟨a1,X⟩:=IM (b:=p .pl) (acc:=[p .v]);generalize (if[p .v].contains (p .pl)then[p .v]else p .pl :: [p .v])=N at *
 obtain⟨b1,T⟩:=IM (b:=p .ls) (acc:=N);generalize (if N.contains (p .ls)then N else p .ls::N)=Y at *
 have U:D.IN.length ≠ 0->ak σ (p .aH)=some ⟨none,D.IN.map wI,.live⟩:=λj=>h.has .aH _ (aa λe=>j (by rw[e];rfl))
 obtain⟨Z,P⟩:=RX (σ:=σ) (f:=10) U (λy H=>by obtain⟨l,_,rfl⟩:=cB.1 H;rfl) (acc:=Y)
 generalize reach σ 11 (cE (p .aH) D.IN.length) Y=w at *;have F:∀b,b∈w->b=p .v\/b=p .pl\/b=p .ls\/(D.IN.length ≠ 0/\b=p .aH):=λb d=>by
  rcases(P b).2 d with d|d
  .rcases(T b).2 d with d|d
   .rcases(X b).2 d with d|d
    .simp at d;exact .inl d
    .exact .inr (.inl d)
   .exact .inr (.inr (.inl d))
  .exact .inr (.inr (.inr d))
 have v3:p .v∈w:=(P _).1 ((T _).1 ((X _).1 (by simp)))
 have J:p .pl∈w:=(P _).1 ((T _).1 a1);have L:p .ls∈w:=(P _).1 b1;have z:D.IN.length ≠ 0->∃B,D.cont O p .aH=some B:=λj=>⟨_,aa λe=>j (by rw[e];rfl)⟩
 by_cases A:D.BL.length=0
 .rw[show cE (p .bl) D.BL.length = .ae by rw[A];rfl,show reach σ 11 .ae w=w from rfl]
  have C : D.BL=[]:=dM A;refine⟨λt B M m=>?_,λb d=>?_⟩
  .cases t with
   |v=>exact v3
   |pl=>exact J
   |ls=>exact L
   |aH=>exact Z λe=>by simp[Vd.cont,dM e]at m
   |mp=>simp[Tg.seen]at M
   |old i=>simp[Tg.seen]at M
   |bl=>simp[Vd.cont,C]at m
   |rw x=>simp[Vd.cont,C]at m
   |cl x c=>simp[Vd.cont,C]at m
  .rcases F b d with rfl|rfl|rfl|⟨j,rfl⟩
   .exact⟨.v,_,rfl,rfl,rfl⟩
   .exact⟨.pl,_,rfl,rfl,rfl⟩
   .exact⟨.ls,_,rfl,rfl,rfl⟩
   .obtain⟨B,A⟩:=z j
    exact⟨.aH,B,rfl,A,rfl⟩
 .have C : D.BL ≠ []:=λe=>A (by rw[e];rfl)
  have r:D.cont O p .bl=some (D.sC p):=aa C;have V:=h.has .bl _ r;have nbl:p .bl∉w:=λd=>by
   rcases F _ d with e|e|e|⟨j,e⟩
   .exact h.ne r (u:=.v) rfl (by simp) e
   .exact h.ne r (u:=.pl) rfl (by simp) e
   .exact h.ne r (u:=.ls) rfl (by simp) e
   .obtain⟨B,A⟩:=z j
    exact h.ne r A (by simp) e
  have e2:reach σ 11 (cE (p .bl) D.BL.length) w=((List.range D.BL.length).map λx=>AV.sl (p (.rw x)) (D.row x).length 0 (D.row x).length).foldl (λacc y=>reach σ 10 y acc) (p .bl::w):=by
   rw[show cE (p .bl) D.BL.length = .sl (p .bl) D.BL.length 0 D.BL.length from aa A];exact RU (f:=10) V nbl
  rw[e2];have key:=IP (g:=λx=>AV.sl (p (.rw x)) (D.row x).length 0 (D.row x).length) (f:=λacc y=>reach σ 10 y acc) (I:=λk a=>(∀x,x<k->p (.rw x)∈a/\∀c,c<(D.row x).length->D.bM x c ≠ []->p (.cl x c)∈a)/\∀b,(b∈p .bl::w->b∈a)/\(b∈a->b∈p .bl::w\/∃x,x<k/\(b=p (.rw x)\/∃c B,D.cont O p (.cl x c)=some B/\b=p (.cl x c)))) D.BL.length (p .bl::w) ⟨λx E=>by omega,λb=>⟨id,.inl⟩⟩ λk a hk ⟨i1,G⟩=>by
   have s:D.cont O p (.rw k)=some (D.jQ p k):=ab hk;have nk:p (.rw k)∉a:=λd=>by
    rcases(G _).2 d with d|⟨x,E,e|⟨c,B,m,e⟩⟩
    .rcases b5.1 d with e|d
     .exact h.ne s r (by simp) e
     .rcases F _ d with e|e|e|⟨j,e⟩
      .exact h.ne s (u:=.v) rfl (by simp) e
      .exact h.ne s (u:=.pl) rfl (by simp) e
      .exact h.ne s (u:=.ls) rfl (by simp) e
      .obtain⟨B,A⟩:=z j
       exact h.ne s A (by simp) e
    .exact h.ne s (u:=.rw x) (ab (by omega)) (by simp;omega) e
    .exact h.ne s m (by simp) e
   obtain⟨⟨r1,r2⟩,Q⟩:=aku h (f:=8) hk (u:=(D.row k).length) (o:=0) (n:=(D.row k).length) nk;refine⟨λx E=>?_,λb=>⟨λd=>(Q b).1 ((G b).1 d),λd=>?_⟩⟩
   .by_cases e:x=k
    .subst e;exact⟨r1,r2⟩
    .obtain⟨q1,q2⟩:=i1 x (by omega)
     exact⟨(Q _).1 q1,λc m j=>(Q _).1 (q2 c m j)⟩
   .rcases(Q b).2 d with d|d
    .rcases(G b).2 d with d|⟨x,E,q⟩
     .exact .inl d
     .exact .inr ⟨x,by omega,q⟩
    .exact .inr ⟨k,by omega,d⟩
  generalize ((List.range D.BL.length).map λx=>AV.sl (p (.rw x)) (D.row x).length 0 (D.row x).length).foldl (λacc y=>reach σ 10 y acc) (p .bl::w)=a at *;obtain⟨i1,G⟩:=key;have up:∀b,b∈w->b∈a:=λb d=>(G b).1 (by simp[d])
  refine⟨λt B M m=>?_,λb d=>?_⟩
  .cases t with
   |v=>exact up _ v3
   |pl=>exact up _ J
   |ls=>exact up _ L
   |aH=>exact up _ (Z λe=>by simp[Vd.cont,dM e]at m)
   |mp=>simp[Tg.seen]at M
   |old i=>simp[Tg.seen]at M
   |bl=>exact(G _).1 (by simp)
   |rw x=>
    have E:x<D.BL.length:=cZ λW=>by simp[Vd.cont,W]at m
    exact(i1 x E).1
   |cl x c=>
    have E:x<D.BL.length/\c<(D.row x).length/\D.bM x c ≠ []:=cZ λW=>by
     have m:(if x<D.BL.length/\c<(D.row x).length/\D.bM x c ≠ []then some _ else none)=some B:=m
     rw[aa W]at m;simp at m
    exact(i1 x E.1).2 c E.2.1 E.2.2
  .rcases(G b).2 d with d|⟨x,E,rfl|⟨c,B,m,rfl⟩⟩
   .rcases b5.1 d with rfl|d
    .exact⟨.bl,_,rfl,r,rfl⟩
    .rcases F b d with rfl|rfl|rfl|⟨j,rfl⟩
     .exact⟨.v,_,rfl,rfl,rfl⟩
     .exact⟨.pl,_,rfl,rfl,rfl⟩
     .exact⟨.ls,_,rfl,rfl,rfl⟩
     .obtain⟨B,A⟩:=z j
      exact⟨.aH,B,rfl,A,rfl⟩
   .exact⟨.rw x,_,rfl,ab E,rfl⟩
   .exact⟨.cl x c,B,rfl,m,rfl⟩
theorem VS.RY{τ:List ah}(h:VS D O p σ) (U:∀t B,t.seen=true->D.cont O p t=some B->ak τ (p t)=some B):Ab.view τ false vd (.ptr (p .v) 16 0)=some D.vcs.av:=by
 have hv:=U .v _ rfl rfl;have hu:upto τ (p .v) 16=some (D.box p):=tG hv rfl rfl;show Ab.view τ false (11+1) _=_;unfold Ab.view;simp only[hu];have hp:part (D.box p).cells 0 (D.box p).k=some (.agg (D.box p).cells):=rfl;rw[ab (by rfl),hp]
 have hm:bI (Ab.view τ false 10) (D.box p).cells=some [.int D.n.calls,.int D.n.af,.int D.n.aj,.int D.n.stack,.int D.n.start,bL D.n.accept,bN D.n.call,bN D.n.push,bN D.n.inner,dR D.n.pop,iL D.n.aZ,iL D.plc,bN D.K,.oT,bN D.IN,mB D.BL]:=by
  unfold Vd.box;refine cw rfl (cw rfl (cw rfl (cw rfl (cw rfl (cw rfl (cw rfl (cw rfl (cw rfl (cw rfl (cw rfl (cw ?_ (cw ?_ (cw rfl (cw ?_ (cw ?_ rfl)))))))))))))))
  .exact fj (k:=9) (U .pl _ rfl rfl) rfl rfl λ_ _=>rfl
  .exact fj (k:=9) (U .ls _ rfl rfl) rfl rfl λ_ _=>rfl
  .exact pe (k:=9) (λhx=>U .aH _ rfl (aa hx)) rfl λ_ _=>rfl
  .have e:mB D.BL = .au false ((List.range D.BL.length).map λ(x:Nat)=>dR (D.row x)):=by
    unfold Vd.row;rw[pd (f:=dR)]
   rw[e];refine pe (k:=9) (f:=λx=>.sl (p (.rw x)) (D.row x).length 0 (D.row x).length) (λhx=>U .bl _ rfl (aa λe=>hx (by rw[e];rfl))) (by simp) λx hx=>?_
   have V :=bT.1 hx;have e:dR (D.row x) = .au false ((List.range (D.row x).length).map λ(c:Nat)=>bN (D.bM x c)):=by
    unfold Vd.bM;rw[pd (f:=bN)]
   rw[e];refine fj (k:=8) (f:=λc=>cE (p (.cl x c)) (D.bM x c).length) (U (.rw x) _ rfl (ab V)) rfl (by simp) λc hc=>?_
   exact pe (k:=7) (λhz=>U (.cl x c) _ rfl (ab ⟨V, bT.1 hc,hz⟩)) rfl λ_ _=>rfl
 have h10:Ab.view τ false 11 (.agg (D.box p).cells)=some (.agg [.int D.n.calls,.int D.n.af,.int D.n.aj,.int D.n.stack,.int D.n.start,bL D.n.accept,bN D.n.call,bN D.n.push,bN D.n.inner,dR D.n.pop,iL D.n.aZ,iL D.plc,bN D.K,.oT,bN D.IN,mB D.BL]):=by
  show Ab.view τ false (10+1) _=_;unfold Ab.view;simp only[hm]
 simp only[h10]
variable{vars:List AV}{fl:Option (Nat×AV)}{k:Nat}
theorem RZ{A:ah}{Q:Ex->St->Prop}(h:VS D O p σ) (i:nth vars k = .ptr (p .v) 16 0) (j:O b=some A) (l:∀τ,ak τ b=some A->Q .eU ⟨eu vars k D.vcs.av,fl,τ⟩):W L (.kO k) ⟨vars,fl,σ⟩ Q:=by
 obtain⟨m,n⟩:=akv h;have o:=h.RY (τ:=bC (λc=>!(reach σ vd (.ptr (p .v) 16 0) []).contains c) 0 σ) λt B a d=>by
  rw[mQ,h.has t B d];simp[m t B a d]
 have q:gy σ (.ptr (p .v) 16 0)=false:=rfl;have r:ak (bC (λc=>(reach σ vd (.ptr (p .v) 16 0) []).contains c) 0 σ) b=some A:=by
  have g:D.cont O p (.old b)=some A:=j;have:=h.has _ _ g;rw[h.old]at this;rw[mQ,this];have:b∉reach σ vd (.ptr (p .v) 16 0) []:=λs=>by
   obtain⟨t,B,a,d,e⟩:=n b s;refine h.ne g d (λu=>?_) (by rw[h.old];exact e)
   rw[<-u]at a;simp[Tg.seen]at a
  simp[this]
 refine⟨0,.eU,_,?_,l _ r⟩;simp only[exec,i,o,q]
 rfl
abbrev T3:=AV×AV×AV
def t3 (t:T3):List AV:=[t.1,t.2.1,t.2.2]
def fo (l:List T3):List AV:=l.flatMap t3
theorem kL:∀{l:List T3},(fo l).length=3*l.length
 | []=>rfl
 |x::l=>by
  have:=kL (l:=l);show(t3 x++fo l).length=_;rw[aY,this];show 3+_=_;simp;omega
theorem akw{l m:List T3}:fo (l++m)=fo l++fo m:=by simp[fo]
theorem vK{l:List T3}(h:i<l.length):fo l=fo (l.take i)++([l[i].1,l[i].2.1,l[i].2.2]++fo (l.drop (i+1))):=by
 have e:l=l.take i++l[i]::l.drop (i+1):=by
  rw[<-List.drop_eq_getElem_cons h,mO]
 exact(congrArg fo e).trans akw
theorem B6{l:List T3}(h:i<l.length):(fo (l.take i)).length=i*3:=by rw[kL,nw,Nat.min_eq_left (by omega),jd]
variable{t:T3}
theorem IQ{l:List T3}(h:i<l.length):fo (l.set i t)=fo (l.take i)++([t.1,t.2.1,t.2.2]++fo (l.drop (i+1))):=by
 have a : i<(l.set i t).length:=by simpa using h
 rw[vK a, List.take_set_of_le (by omega),List.drop_set_of_lt (by omega)]
 simp
theorem akx{l:List T3}(h:i<l.length):(fo l)[i*3]? = some l[i].1/\(fo l)[i*3+1]? = some l[i].2.1/\(fo l)[i*3+2]? = some l[i].2.2:=by
 have a:=B6 h;rw[vK h];refine⟨?_,?_,?_⟩
 .rw[eK (by omega),a,Nat.sub_self];rfl
 .rw[eK (by omega),a,Nat.add_sub_cancel_left];rfl
 .rw[eK (by omega),a,Nat.add_sub_cancel_left];rfl
theorem aky{l:List T3}(h:i<l.length):jN (fo l) (i*3) [t.1,t.2.1,t.2.2]=fo (l.set i t):=by
 have a:=B6 h;rw[<-uo (by rw[kL];simp;omega)]
 unfold putAt;rw[IQ h];rw[show(fo l).take (i*3)=fo (l.take i)by rw[vK h,List.take_append_of_le_length (by omega),fc (by omega)],vK h,List.drop_append,a,ji (l:=fo (l.take i)) (by simp;omega)]
 simp
theorem akz{l:List T3}(h:i<l.length):jN (fo l) (i*3+1) [x]=fo (l.set i (l[i].1,x,l[i].2.2)):=by
 have a:=B6 h;rw[qz,IQ h,vK h,List.set_append,aa (by omega),a,Nat.add_sub_cancel_left]
 rfl
theorem akA{l:List T3}(h:i<l.length):jN (fo l) (i*3+2) [x]=fo (l.set i (l[i].1,l[i].2.1,x)):=by
 have a:=B6 h;rw[qz,IQ h,vK h,List.set_append,aa (by omega),a,Nat.add_sub_cancel_left]
 rfl
theorem B7:∀{l:List T3},chunk (some 3) l.length (fo l)=l.map λt=>.agg (t3 t)
 | []=>rfl
 |x::xs=>by
  have e:=B7 (l:=xs);rw[cJ,<-e];rfl
def qE (x:gN):List gN->List gN
 | []=>[x]
 |y::r=>if aP x.2.2 y.2.2<=0 then x::y::r else y::qE x r
def dc:List gN->List gN
 | []=>[]
 |x::r=>qE x (dc r)
theorem IS (x:gN):∀l,(qE x l).Perm (x::l)
 | []=>.refl _
 |y::r=>by
  unfold qE;split
  .exact .refl _
  .exact((IS x r).cons y).trans (.swap x y r)
theorem pn:∀l,(dc l).Perm l
 | []=>.refl _
 |x::r=>(IS x _).trans ((pn r).cons x)
theorem akB (a b:gN):Lj (lK a) (lK b)=decide (aP a.2.2 b.2.2<=0):=by
 show sB aP (iL a.2.2) (iL b.2.2)=_;unfold sB;rw[uS,uS]
theorem R1 (x:gN):∀l:List gN,uU (lK x) (l.map lK)=(qE x l).map lK
 | []=>rfl
 |y::r=>by
  simp only[cJ,uU,qE,akB]
  by_cases h:aP x.2.2 y.2.2<=0
  .rw[ab (by simpa using h),ab h];rfl
  .rw[aa (by simpa using h),aa h,cJ,R1 x r]
theorem R2:∀l:List gN,jH (l.map lK)=(dc l).map lK
 | []=>rfl
 |x::r=>by simp only[cJ,jH,dc,R2 r,R1]
theorem R3{x:gN}:∀{l:List gN},l.Pairwise (λa b=>aP a.2.2 b.2.2<0)->(∀y∈l,y.2.2 ≠ x.2.2)->(qE x l).Pairwise λa b=>aP a.2.2 b.2.2<0
 | [],_,_=>by simp[qE]
 |y::r,h,i=>by
  unfold qE;have j:=i y (by simp)
  rw[kD]at h;split
  .rename_i hle
   have g:aP x.2.2 y.2.2<0:=by
    have:aP x.2.2 y.2.2 ≠ 0:=λe=>j (dE.eq _ _ e).symm;omega
   rw[kD,kD];refine⟨λz d=>?_,h.1,h.2⟩;rcases b5.1 d with rfl|d
   .exact g
   .have m:=h.1 z d
    have n:=dE.trans _ _ _ (show aP x.2.2 y.2.2<=0 by omega) (show aP y.2.2 z.2.2<=0 by omega)
    have o:aP x.2.2 z.2.2 ≠ 0:=λe=>by
     have e:=dE.eq _ _ e;rw[<-e]at m;have:=dE.gg y.2.2 x.2.2;omega
    omega
  .rename_i hle
   rw[kD];refine⟨λz d=>?_,R3 h.2 λz d=>i z (by simp[d])⟩
   rcases b5.1 ((IS x r).mem_iff.1 d)with rfl|d
   .have:=dE.gg y.2.2 z.2.2;omega
   .exact h.1 z d
theorem IT:∀{l:List gN},(l.map λc=>c.2.2).Nodup->(dc l).Pairwise λa b=>aP a.2.2 b.2.2<0
 | [],_=>by simp[dc]
 |x::r,h=>by
  rw[cJ,l8]at h;refine R3 (IT h.2) λy d e=>h.1 ?_;rw[cB];exact⟨y,(pn r).mem_iff.1 d,e⟩
def oA (c:gN):T3:=(.int c.1,.int c.2.1,iL c.2.2)
theorem R4:∀l:List gN,(l.map lK).flatMap AV.cells=fo (l.map oA)
 | []=>rfl
 |x::r=>by
  rw[cJ,gX,R4 r];rfl
theorem akC{p q new:List AV}{off:Nat}(a:p.length=off) (b:q.length=new.length):putAt (p++q) off new=p++new:=by
 subst a;unfold putAt;rw[List.take_left' rfl,ji (l:=p++q) (by simp;omega),List.append_nil]
abbrev oH (l:List T3):ah:=⟨some 3,fo l,.live⟩
theorem akD (p q:gN) (a:(p.2.2.length:Int)<=1000000) (b:(q.2.2.length:Int)<=1000000):PC xV [lK p,lK q]=some (.int (aP p.2.2 q.2.2)):=by
 refine bP (af9 rfl ?_);have:=BF p.2.2 q.2.2 (by omega) (by omega)
 simp[lK,this]
theorem akE(h:ak σ b=some (oH (l.map oA))) (E:k=l.length) (M:l.length<=1000) (F:l ≠ []) (B:∀c∈l,(c.2.2.length:Int)<=1000000) (hd:(l.map λc=>c.2.2).Nodup):L AP [.sl b (3*k) 0 k,.func xV []] σ=some (.bF [],ar σ b (oH ((dc l).map oA))):=by
 subst E;have H:upto σ b (3*l.length)=some (oH (l.map oA)):=tG h (by show(fo (l.map oA)).length=_;rw[kL,cY]) rfl
 have I:=IT hd;have u:=pn l;have J:∀(i j:Nat) x y,((dc l).map lK)[i]? = some x->((dc l).map lK)[j]? = some y->∃c,iE (lim Ab.G Q) xV (x::y :: [])=some (.int c)/\(c<0↔i<j):=by
  intro i j x y o r;rw[fS]at o r;cases d : (dc l)[i]? with
  |none=>rw[d]at o;simp at o
  |some p=>
   cases g : (dc l)[j]? with
   |none=>rw[g]at r;simp at r
   |some q=>
    rw[d]at o;rw[g]at r;simp at o r;subst o r;refine⟨aP p.2.2 q.2.2,?_,?_⟩
    .have:=akD p q (B p (u.mem_iff.1 (qO d))) (B q (u.mem_iff.1 (qO g)))
     unfold iE;rw[ab (by simp[ax,aI,lK])]
     exact this
    .obtain⟨C,n⟩:=dq.1 d
     obtain⟨D,m⟩:=dq.1 g;have s:=qj.1 I;rcases Nat.lt_trichotomy i j with a|a|a
     .have:=s i j C D a
      rw[n,m]at this;exact⟨λ_=>a,λ_=>this⟩
     .subst a
      rw[n]at m;subst m;have:=dE.refl p.2.2;omega
     .have:=s j i D C a
      rw[n,m]at this;have O:=dE.gg p.2.2 q.2.2;omega
 obtain⟨N,K⟩:=WO mU J;refine af8 (N:=N) ?_;have w:¬l.length=0:=λe=>F (dM e);have z:chunk (some 3) l.length (fo (l.map oA))=l.map lK:=by
  have:=B7 (l:=l.map oA);rw[cY]at this;rw[this,List.map_map];rfl
 have A:putAt (fo (l.map oA)) 0 (fo ((dc l).map oA))=fo ((dc l).map oA):=by
  have:=akC (p:=[]) (q:=fo (l.map oA)) (new:=fo ((dc l).map oA)) (off:=0) rfl (by rw[kL,kL,cY,cY,u.length_eq])
  simpa using this
 simp only[iM,H,kF,z,R2,R4,A];rw[aa (by simpa using w),ab]
 simp only[kL,cY,aA,dY];refine⟨⟨⟨⟨⟨rfl,rfl⟩,by omega⟩,by omega⟩,?_⟩,K⟩
 show 3*l.length<=1073741824;omega
def neg (c:gN):Bool:=decide (c.2.1<0)
theorem akF (c:gN):PC tx [lK c]=some (.bool (neg c)):=by
 refine bP (af7 rfl ?_);simp[lK,neg]
theorem akG (l:List gN) (n:l.length<=1000):PC Hg [Ka l,.func tx []]=some (.int (idx neg l)):=by
 refine bP (agE rfl ?_);simp[-ag];refine aM (λi:Int=>[(2,.int i)]) (λ_=>[]) (λi=>0<=i/\i<=l.length/\∀j,0<=j->j<i->neg (ix l j)=false) (λi=>(l.length-i).toNat) 0 rfl (by simp;omega) λi ⟨g,o,d⟩=>?_
 by_cases e:i<l.length
 .have m:=akF (ix l i)
  simp only[lK]at m;simp[-ag,e,g,m,lK];exact⟨λh=>(PG g e h d).symm,λh=>⟨by omega,az (i+1) (by simp) rfl ⟨by omega,by omega,gC h d⟩ (by omega)⟩⟩
 .simp[-ag,e]
  rw[PH λj a b=>d j a (by omega)]
theorem akH (l:List gN) (a:l.length<=1000):LX L GZ [Ka l,.func tx []] [] (λr τ=>r = .bool (l.any neg)):=by
 refine af6 rfl ?_;simp[akG l a];exact PI
def ia (c:gN):T3:=(.int c.1,.int c.2.1,if c.2.1<0 then .ae else iL c.2.2)
theorem akI(h:ak σ b=some (oH (l.map ia))) (j:n=l.length) (d:u=3*n) (m:∀c∈l,c.2.1<0->c.2.2=[]):view σ false vd (.sl b u 0 n)=some (Ka l):=by
 subst d j;have d:upto σ b (3*l.length)=some (oH (l.map ia)):=tG h (by show(fo (l.map ia)).length=_;rw[kL,cY]) rfl
 have e:chunk (some 3) l.length (fo (l.map ia))=l.map λc=>.agg (t3 (ia c)):=by
  have:=B7 (l:=l.map ia);rw[cY]at this;rw[this,List.map_map];rfl
 show view σ false (11+1) _=_;unfold view;simp only[d,aE,kL,cY,kF];rw[ab (by omega),e,Bn (g:=lK)]
 intro c o;have:=m c o
 by_cases a:c.2.1<0
 .have i:=this a
  obtain⟨x,y,w⟩:=c;dsimp only at a i;subst i;simp[t3,ia,a,lK,bI]
 .obtain⟨x,y,w⟩:=c
  dsimp only at a;simp[t3,ia,a,lK,bI]
theorem akJ(h:l.any neg=false):l.map ia=l.map oA:=by
 refine fv λc a=>?_;have:=List.any_eq_false.1 h c a;simp[neg]at this;simp[ia,oA,show ¬c.2.1<0 by omega]
def yL:IC:=(.seq (.seq (.cq Pf)
 (.cond 103 (.seq (.cq Pg)
 .ret) .skip))
 (.seq (.seq (.cq Ph) (.kO 6))
 (.seq (.cq Pj)
 .ret)))
theorem akK{Q:Ex->St->Prop}(e:ak σ b=some (oH (l.map oA))) (q:nth vars k = .sl b (3*n) 0 n) (r:n=l.length) (s:∀τ,(∀c,c ≠ b->ak τ c=ak σ c)->Q .eU ⟨eu vars k (.au true (l.map lK)),fl,τ⟩):W L (.kO k) ⟨vars,fl,σ⟩ Q:=by
 subst r;have i:∀x∈fo (l.map oA),B4 x=true:=λx a=>by
  unfold fo at a;obtain⟨t,w,a⟩:=qh.1 a;obtain⟨c,_,rfl⟩:=cB.1 w;simp only[t3,oA,b5,List.not_mem_nil,or_false]at a;rcases a with rfl|rfl|rfl<;>rfl
 have y:reach σ vd (.sl b (3*l.length) 0 l.length) []=[b]:=by
  have:=B5 (σ:=σ) (f:=11) (u:=3*l.length) (o:=0) (n:=l.length) e i (acc:=[]);rw[show vd=11+1 from rfl,this];rfl
 have j:ak (bC (λc=>!([b]:List Nat).contains c) 0 σ) b=some (oH (l.map oA)):=by
  rw[mQ,e];simp
 have d:∀τ,ak τ b=some (oH (l.map oA))->upto τ b (3*l.length)=some (oH (l.map oA)):=λτ h=>tG h (by show(fo (l.map oA)).length=_;rw[kL,cY]) rfl
 have m:chunk (some 3) l.length (fo (l.map oA))=l.map lK:=by
  have:=B7 (l:=l.map oA);rw[cY]at this;rw[this,List.map_map];rfl
 have z:view (bC (λc=>!([b]:List Nat).contains c) 0 σ) false vd (.sl b (3*l.length) 0 l.length)=some (Ka l):=by
  have d:=d _ j;generalize bC (λc=>!([b]:List Nat).contains c) 0 σ=τ at *;show view τ false (11+1) _=_;unfold view;simp only[d,aE,kL,cY,kF];rw[ab (by omega),m,Bn (g:=lK)]
  intro c p
  rfl
 have A:gy σ (.sl b (3*l.length) 0 l.length)=true:=by
  simp only[gy,d σ e]
 refine⟨0,.eU,_,?_,s (bC (λc=>([b]:List Nat).contains c) 0 σ) λc p=>?_⟩
 .simp only[exec,q,y,z,A];rfl
 .rw[mQ]
  cases ak σ c with
  |none=>rfl
  |some B=>simp[p]
abbrev r7:List AV:=[.int 0,.int 0,.int 0,.int 0,.int 0,.ae,.ae,.ae,.ae,.ae]
variable{K:AV->List ah->Prop}
theorem akL{s u w x:AV}(y:ak σ 0=some ⟨some 10,r7,.live⟩) (r:ak σ b=some (oH (l.map ia))) (g:b ≠ 0) (J:∀c∈l,c.2.1<0->c.2.2=[]) (hl:l.length<=128) (z:l ≠ []) (M:∀c∈l,c.2.2.length<=1024)
  (N:l.any neg=true->∀τ,K (.bF [.agg r7,.int 3]) τ)
  (O:l.any neg=false->(l.map λc=>c.2.2).Nodup/\UQ D cls (dc l)/\∀(st:List Int) (τ:List ah),st.length=l.length->(∀i:Nat,i<l.length->ix st (uB (dc l) i)=i)->K (.bF [(r6 D cls (dc l) st).av,.int 0]) τ) :
  WK L yL [.aF,.aF,.aF,.ptr 0 10 0,D.vcs.av,.aF,.sl b (3*l.length) 0 l.length,.aF,.aF,.aF,.aF,s,u,w,iL cls,.aF,x,.aF,.aF,.aF] none σ (gA rM K):=by
 unfold yL;have j:=akI r rfl rfl J;obtain⟨rc,P,d,rfl⟩:=dh (akH l (by omega))
 have m:view σ false vd (.func tx [])=some (.func tx []):=rfl;have o:∀(τ:List ah) (B:ah),ak τ 0=some ⟨some 10,r7,.live⟩->ak (ar τ 0 B) 0=some B:=λτ B h=>cv (by have:=dw h;omega)
 have p:=λ(ce:CE) (τ:List ah) (h:ak τ 0=some ⟨some 10,r7,.live⟩) (Q R S T U V W X Y Z:AV)=>qD (ce:=ce) (σ:=ar τ 0 ⟨some 10,[Q,R,S,T,U,V,W,X,Y,Z],.live⟩) (n:=0) (o τ _ h)
 by_cases e:l.any neg=true
 .rw[e]at d
  have a:=λce=>p ce σ y;simp[-ag,j,m,d,y,a];exact N e _
 .have e:l.any neg=false:=by simpa using e
  rw[e]at d;obtain⟨hd,A,hK⟩:=O e;rw[akJ e]at r;have C:=akE r rfl (by omega) z (λc hc=>by have:=M c hc;omega) hd
  simp[-ag,j,m,d,C];have E:=pn l;refine akK (b:=b) (l:=dc l) (cv (dw r)) rfl E.length_eq.symm λτ F=>?_;have q : ak τ 0=some ⟨some 10,r7,.live⟩:=by
   rw[F 0 (Ne.symm g),aK g];exact y
  obtain⟨st,G,H,I⟩:=akt D cls (dc l) A;have a:=λce=>p ce τ q;simp[-ag,G,q, a];exact hK st _ (H.trans E.length_eq) λi hi=>I i (by rw[E.length_eq];exact hi)
def Fd.wd (S:Fd) (x:Int):List Int:=(ix S.W x).getD []
structure yM (cls:List Int) (S:Fd) (k x:Nat) (l:List gN):Prop where
 len:l.length=k
 cl:∀i:Nat,i<k->(ix l (i:Int)).1=i
 no:∀i:Nat,i<k->(ix l (i:Int)).2.1<0->(ix l (i:Int)).2.2=[]/\∀y:Nat,y<x->ix cls (y:Int)=i->ix S.F (y:Int)=false
 yes:∀i:Nat,i<k->0<=(ix l (i:Int)).2.1->((ix l (i:Int)).2.1<(x:Int)/\ix cls (ix l (i:Int)).2.1=i/\ix S.F (ix l (i:Int)).2.1=true/\(ix l (i:Int)).2.2=S.wd (ix l (i:Int)).2.1)/\∀y:Nat,y<x->ix cls (y:Int)=i->ix S.F (y:Int)=true->aP (ix l (i:Int)).2.2 (S.wd y)<=0
def Da (k:Nat):List gN:=(List.range k).map λ(i:Nat)=>((i:Int),-1,[])
variable{S:Fd}
theorem R5:yM cls S k 0 (Da k):=by
 have e:∀i:Nat,i<k->ix (Da k) (i:Int)=((i:Int),-1,[]):=λi a=>by
  unfold Da;rw[aG (by simpa using a)];simp
 exact⟨by simp[Da],λi a=>by rw[e i a],λi a _=>by rw[e i a];exact⟨rfl,λy b=>by omega⟩,λi a h=>by rw[e i a]at h;simp at h⟩
theorem yM.skip{x:Nat}(h:yM cls S k x l) (U:ix S.F (x:Int)=false\/∃i:Nat,i<k/\ix cls (x:Int)=i/\0<=(ix l (i:Int)).2.1/\aP (ix l (i:Int)).2.2 (S.wd x)<=0):yM cls S k (x+1) l:=by
 refine⟨h.len,h.cl,λi hi hn=>?_,λi hi hp=>?_⟩
 .obtain⟨a,b⟩:=h.no i hi hn
  refine⟨a,λy hy V=>?_⟩
  by_cases e:y=x
  .subst e
   rcases U with U|⟨j,hj,US,hp,_⟩
   .exact U
   .have:j=i:=by omega
    subst this;omega
  .exact b y (by omega) V
 .obtain⟨⟨a,a2⟩,b⟩:=h.yes i hi hp
  refine⟨⟨by omega,a2⟩,λy hy V hf=>?_⟩
  by_cases e:y=x
  .subst e
   rcases U with U|⟨j,hj,US,_,hle⟩
   .rw[U]at hf;simp at hf
   .have:j=i:=by omega
    subst this;exact hle
  .exact b y (by omega) V hf
theorem yM.put{x:Nat}(h:yM cls S k x l) (hi:i<k) (hc:ix cls (x:Int)=i) (hf:ix S.F (x:Int)=true) (hs:0<=(ix l (i:Int)).2.1->aP (S.wd x) (ix l (i:Int)).2.2<=0):yM cls S k (x+1) (l.set i ((i:Int),(x:Int),S.wd x)):=by
 have e:∀j:Nat,ix (l.set i ((i:Int),(x:Int),S.wd x)) (j:Int)=if j=i then((i:Int),(x:Int),S.wd x)else ix l (j:Int):=λj=>iD (by rw[h.len];exact hi) j
 refine⟨by simp[h.len],λj hj=>?_,λj hj hn=>?_,λj hj hp=>?_⟩
 .rw[e];split
  .rename_i q;rw[q]
  .exact h.cl j hj
 .rw[e]at hn ⊢
  by_cases q:j=i
  .rw[if_pos q]at hn;dsimp only at hn;omega
  .rw[aa q]at hn ⊢
   obtain⟨a,b⟩:=h.no j hj hn;refine⟨a,λy hy U=>?_⟩
   by_cases e2:y=x
   .subst e2;omega
   .exact b y (by omega) U
 .rw[e]at hp ⊢
  by_cases q:j=i
  .rw[ab q]
   subst q;refine⟨⟨by dsimp only;omega,hc,hf,rfl⟩,λy hy U V=>?_⟩
   by_cases e2:y=x
   .subst e2;exact Int.le_of_eq (dE.refl _)
   .by_cases e3:0<=(ix l (j:Int)).2.1
    .exact dE.trans _ _ _ (hs e3) ((h.yes j hj e3).2 y (by omega) U V)
    .have:=(h.no j hj (by omega)).2 y (by omega) U
     rw[this]at V;simp at V
  .rw[aa q]at hp ⊢
   obtain⟨⟨a,a2⟩,b⟩:=h.yes j hj hp;refine⟨⟨by omega,a2⟩,λy hy U V=>?_⟩
   by_cases e2:y=x
   .subst e2;omega
   .exact b y (by omega) U V
def IU:IC:=(.seq (.seq (.cq Pd)
 (.block 2 (.loop Pe))) yL)
theorem R6{l:List AV}(h:l[n]? = some x):lQ l n=some x:=by
 induction l generalizing n with
 |nil=>simp at h
 |cons a l b=>
  cases n with
  |zero=>simpa[lQ]using h
  |succ n=>simpa[lQ]using b (by simpa using h)
theorem akM{x7 x8:AV}(qR:cls.length=D.K.length) (Z:∀c∈cls,0<=c/\c<(k:Int)) (hSl:S.W.length=D.K.length) (hSf:S.F.length=D.K.length) (N:∀x:Int,0<=x->x<(D.K.length:Int)->(S.wd x).length<=1024) (hKl:D.K.length<=512) (hk:k<=128)
  (h0:ak σ 0=some ⟨some 10,r7,.live⟩) (hb:ak σ b=some (oH ((Da k).map ia))) (O:b ≠ 0)
  (hE:∀l τ x11 x12 x13 x16,yM cls S k D.K.length l->ak τ 0=some ⟨some 10,r7,.live⟩->ak τ b=some (oH (l.map ia))->WK L yL [.aF,.aF,.aF,.ptr 0 10 0,D.vcs.av,.aF,.sl b (3*k) 0 k,.aF,.aF,.aF,.aF,x11,x12,x13,iL cls,.aF,x16,.aF,.aF,.aF] none τ (gA rM K)) :
  WK L IU [.aF,.aF,.aF,.ptr 0 10 0,D.vcs.av,.aF,.sl b (3*k) 0 k,x7,x8,.aF,bN (S.W.map λo=>o.getD []),.aF,.aF,.aF,iL cls,.aF,bL S.F,.aF,.aF,.aF] none σ (gA rM K):=by
 unfold IU;simp[-ag,-List.map_map];refine aM (λq:Nat×List gN×List ah=>[(11,.int q.1)]) (λq=>q.2.2) (λq=>q.1<=D.K.length/\yM cls S k q.1 q.2.1/\ak q.2.2 0=some ⟨some 10,r7,.live⟩/\ak q.2.2 b=some (oH (q.2.1.map ia))) (λq=>D.K.length-q.1) (0,Da k,σ) (by simp[a8]) ⟨by simp,R5,h0,hb⟩ ?_
 rintro⟨x,l,τ⟩ ⟨x0,d,m, a⟩;dsimp only at x0 d m a ⊢
 by_cases hx:x<D.K.length
 .have hc:=Z _ (aO (l:=cls) (n:=(x:Int)) (by omega) (by omega))
  obtain⟨i,A⟩:∃i:Nat,ix cls (x:Int)=i:=⟨(ix cls (x:Int)).toNat,by omega⟩
  rw[A]at hc;have e:i<l.length:=by rw[d.len];omega
  have p:i<(l.map ia).length:=by simpa using e
  obtain⟨g0,g1,g2⟩:=akx p;rw[k9,<-aG e]at g0 g1 g2;have V:lQ (fo (l.map ia)) (i*3+1)=some (.int (ix l (i:Int)).2.1):=R6 g1;have xw:=aB (show(x:Int)<(S.W.length:Int)by omega)
  have xf:=aB (show(x:Int)<(S.F.length:Int)by omega)
  have X:=aB (show(x:Int)<(cls.length:Int)by omega)
  have I:=aB (show x<S.W.length by omega)
  have u:=aB (show x<S.F.length by omega)
  have w:=aB (show x<cls.length by omega)
  have g:=aB (show i<k by rw[<-d.len];exact e)
  have j:=aB (show(i:Int)<(k:Int)by rw[<-d.len];omega)
  have y:(fo (l.map ia)).length=3*k:=by rw[kL,cY,d.len]
  have Y:ix (S.W.map λo=>o.getD []) (x:Int)=S.wd x:=iT (by omega) (by omega)
  have Iw:=N x (by omega) (by omega)
  have lb:=dw a;have P:fo ((l.map ia).set i ((.int i),(.int x),iL (S.wd x)))=fo ((l.set i ((i:Int),(x:Int),S.wd x)).map ia):=by
   rw[List.map_set]
   congr 2
  have E:jN (fo (l.map ia)) (i*3+1) (AV.int x).cells=fo ((l.map ia).set i ((l.map ia)[i].1,.int x,(l.map ia)[i].2.2)):=akz p;have G:jN (fo ((l.map ia).set i ((l.map ia)[i].1,.int x,(l.map ia)[i].2.2))) (i*3+2) (AV.au false ((S.wd x).map .int)).cells=fo ((l.set i ((i:Int),(x:Int),S.wd x)).map ia):=by
   rw[show(AV.au false ((S.wd x).map .int)).cells=[iL (S.wd x)]from rfl,akA (by simpa using p),<-P]
   congr 1
   rw[List.set_set,List.getElem_set_self];have:=d.cl i (by rw[<-d.len];exact e)
   rw[aG e]at this;simp only[k9];rw[show(ia l[i]).1 = .int i from by show AV.int l[i].1=_;rw[this]]
  have H:(fo ((l.map ia).set i ((l.map ia)[i].1,.int x,(l.map ia)[i].2.2))).length=3*k:=by rw[kL,mN,cY,d.len]
  generalize (l.map ia).set i ((l.map ia)[i].1,.int x,(l.map ia)[i].2.2)=M at E G H;have C:∀B:ah,ak (ar τ b B) b=some B:=λB=>cv lb;have fin:∀B,ak (ar (ar τ b B) b (oH ((l.set i ((i:Int),(x:Int),S.wd x)).map ia))) 0=some ⟨some 10,r7,.live⟩/\ak (ar (ar τ b B) b (oH ((l.set i ((i:Int),(x:Int),S.wd x)).map ia))) b=some (oH ((l.set i ((i:Int),(x:Int),S.wd x)).map ia)):=λB=>⟨by rw[aK O,aK O];exact m, cv (by rw[bQ];exact lb)⟩
  have r:i<k:=by rw[<-d.len];exact e
  by_cases J:ix S.F (x:Int)=true
  .by_cases hv:(ix l (i:Int)).2.1<0
   .have z :=aB hv
    simp[-ag,-List.map_map,A,xw,xf,X,I,u,w,a, g,j,y,V,J,z, Y,C,E,G,H];exact⟨by omega,by omega,by omega,az (x+1,l.set i ((i:Int),(x:Int),S.wd x),ar (ar τ b ⟨some 3,fo M,.live⟩) b (oH ((l.set i ((i:Int),(x:Int),S.wd x)).map ia))) (by simp) (by simp[List.map_set]) ⟨by dsimp only;omega,d.put r A J (λh=>by omega),(fin _).1,(fin _).2⟩ (by dsimp only;omega)⟩
   .have z :=dN hv
    have E2:lQ (fo (l.map ia)) (i*3+2)=some (iL (ix l (i:Int)).2.2):=by
     rw[R6 g2];simp[ia,hv]
    have Q:PC nX [.au false ((S.wd x).map .int),.au false ((ix l (i:Int)).2.2.map .int)]=some (.int (aP (S.wd x) (ix l (i:Int)).2.2)):=by
     obtain⟨⟨q1,q2,q3,q4⟩,_⟩:=d.yes i (by rw[<-d.len];exact e) (by omega)
     have R:=N (ix l (i:Int)).2.1 (by omega) (by omega)
     rw[<-q4]at R;exact BF _ _ (by omega) (by omega)
    by_cases T:aP (S.wd x) (ix l (i:Int)).2.2<0
    .have s :=aB T
     simp[-ag,-List.map_map,A,xw,xf,X,I,u,w,a, g,j,y,V,E2,J,z, Y,Q,s, C,E,G,H];exact⟨by omega,by omega,by omega,az (x+1,l.set i ((i:Int),(x:Int),S.wd x),ar (ar τ b ⟨some 3,fo M,.live⟩) b (oH ((l.set i ((i:Int),(x:Int),S.wd x)).map ia))) (by simp) (by simp[List.map_set]) ⟨by dsimp only;omega,d.put r A J (λh=>by omega),(fin _).1,(fin _).2⟩ (by dsimp only;omega)⟩
    .have s :=dN T
     simp[-ag,-List.map_map,A,xw,xf,X,I,u,w,a, g,j,y,V,E2,J,z, Y,Q,s];refine⟨by omega,az (x+1,l,τ) (by simp) rfl ⟨by dsimp only;omega,d.skip (.inr ⟨i,r,A,by omega,?_⟩),m, a⟩ (by dsimp only;omega)⟩
     have:=dE.gg (S.wd x) (ix l (i:Int)).2.2;omega
  .have U : ix S.F (x:Int)=false:=by simpa using J
   simp[-ag,-List.map_map,A,xw,xf,X,I,u,w,a, g,j,y,V,U, Y];exact⟨by omega,az (x+1,l,τ) (by simp) rfl ⟨by dsimp only;omega,d.skip (.inl U),m, a⟩ (by dsimp only;omega)⟩
 .have ex:x=D.K.length:=by omega
  have xw:=dN (show ¬(x:Int)<(S.W.length:Int)by omega)
  have I:=dN (show ¬x<S.W.length by omega)
  simp[-ag,-List.map_map,xw,I];rw[ex]at d;exact hE l τ _ _ _ _ d m a
def IV:IC:=(.seq (.cq O9)
 (.seq (.cq Pa)
 (.seq (.seq (.cq Pb)
 (.block 0 (.loop Pc)))
 IU)))
def sG (k i:Nat):List T3:=(List.range k).map λ(j:Nat)=>if j<i then(.int j,.int (-1),.ae)else(.int 0,.int 0,.ae)
theorem IW:(sG k i).length=k:=by simp[sG]
theorem akN(a:i<k):(sG k i).set i (.int i,.int (-1),.ae)=sG k (i+1):=by
 refine jJ (by simp[sG]) λj b d=>?_
 simp only[sG,rh,k9,nI]
 by_cases e:i=j
 .subst e;rw[ab rfl,ab (by omega)]
 .rw[aa e]
  by_cases h:j<i
  .rw[ab h,ab (by omega)]
  .rw[aa h,aa (by omega)]
theorem R7:sG k k=(Da k).map ia:=by
 unfold sG Da;rw[List.map_map];refine fv λj a=>?_;rw[ab (bT.1 a)]
 rfl
theorem R8:fo (sG k 0)=dI k [AV.int 0,.int 0,.ae]:=by
 have e:sG k 0=List.replicate k (.int 0,.int 0,.ae):=by
  unfold sG;simp only[Nat.not_lt_zero,eJ];rw[List.map_const', qk]
 rw[e];have:∀n:Nat,fo (List.replicate n (.int 0,.int 0,.ae))=dI n [AV.int 0,.int 0,.ae]:=by
  intro n
  induction n with
  |zero=>rfl
  |succ n a=>
   rw[sL];show[AV.int 0,.int 0,.ae]++fo (List.replicate n (.int 0,.int 0,.ae))=_;rw[a];rfl
 exact this k
theorem akO(z:jr D) (C:D.n.calls+D.n.af+D.n.aj<=64)(p:cls.length=D.K.length) (r:∀c∈cls,0<=c/\c<(k:Int)) (E:k<=128) (F:1<=k)
  (A:ak σ 0=some ⟨some 10,r7,.live⟩)
  (G:∀S l τ b a d e g,Sr D 1025 S->yM cls S k D.K.length l->b ≠ 0->ak τ 0=some ⟨some 10,r7,.live⟩->ak τ b=some (oH (l.map ia))->WK L yL [.aF,.aF,.aF,.ptr 0 10 0,D.vcs.av,.aF,.sl b (3*k) 0 k,.aF,.aF,.aF,.aF,a,d,e,iL cls,.aF,g,.aF,.aF,.aF] none τ (gA rM K)) :
  WK L IV [.aF,.aF,.aF,.ptr 0 10 0,D.vcs.av,.int k,.aF,.aF,.aF,.aF,.aF,.aF,.aF,.aF,iL cls,.aF,.aF,.aF,.aF,.aF] none σ (gA rM K):=by
 unfold IV;obtain⟨S,H,m⟩:=aki D z C;have R:=dw A;simp[-ag,-List.map_map,H];simp only[<-R8,kL,IW];refine⟨by omega,?_⟩
 refine aM (λq:Nat×List ah=>[(7,.int q.1)]) (λq=>q.2) (λq=>q.1<=k/\ak q.2 0=some ⟨some 10,r7,.live⟩/\ak q.2 σ.length=some (oH (sG k q.1))) (λq=>k-q.1) (0,σ ++ [oH (sG k 0)]) (by simp[a8]) ⟨by simp,fU A,gJ⟩ ?_
 rintro⟨i,τ⟩ ⟨I,j, o⟩;dsimp only at I j o ⊢
 by_cases s:i<k
 .have u:i<(sG k i).length:=by rw[IW];exact s
  have J:(fo (sG k i)).length=3*k:=by rw[kL,IW]
  have B:=aky u (t:=(.int i,.int (-1),.ae));rw[akN s]at B;simp[-ag,-List.map_map,s,o,J];exact⟨by omega,by omega,az (i+1,ar τ σ.length (oH (sG k (i+1)))) (by simp) (congrArg (λc=>ar τ σ.length (⟨some 3,c,.live⟩:ah)) B) ⟨by dsimp only;omega,by dsimp only;rw[aK (by omega)];exact j, cv (dw o)⟩ (by dsimp only;omega)⟩
 .have ei:i=k:=by omega
  subst ei;simp[-ag,-List.map_map];rw[R7]at o;refine akM p r m.l (by rw[m.w.f];exact m.l) (λx M N=>?_) z.f.k E j o (by omega) λl y a d e g O P Q=>G S l y _ a d e g m O (by omega) P Q
  unfold Fd.wd;cases h:ix S.W x with
  |none=>simp
  |some w=>exact m.w.wl x w M (by rw[m.l];exact N) h
end Ab
