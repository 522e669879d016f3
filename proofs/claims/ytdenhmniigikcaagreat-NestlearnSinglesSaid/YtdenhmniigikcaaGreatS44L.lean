/- The single-entry automaton of classes: the program; and what it leans on. Condition: none. -/
import Derived.Test.YtdenhmniigikcaaGreatS44F
set_option linter.all false
set_option maxRecDepth 100000
set_option maxHeartbeats 4000000
namespace Ab
structure rf (D:Vd) (l:List iB) (st:List Int) (b:Nat) (A:ao) (σ:List al):Prop where
 m:AS A (λt=>fp (D.n.aE l.length) t+2) σ
 b:aq σ b=some ⟨some 10,[.int D.n.calls,.int D.n.ak,.int D.n.ah,.int ((D.n.aE l.length:Nat):Int),.int 0,.sl 3 l.length 0 l.length,.sl (6+D.n.aE l.length+2) l.length 0 l.length,.sl (7+D.n.aE l.length+2) l.length 0 l.length,.sl (9+D.n.aE l.length+2) l.length 0 l.length,.sl (10+D.n.aE l.length+2) l.length 0 l.length],.live⟩
 s:aq σ 1=some (Zb st)
 z:aq σ 0=some ⟨some 10,[.int 0,.int 0,.int 0,.int 0,.int 0,.ag,.ag,.ag,.ag,.ag],.live⟩
variable{D:Vd}{l:List iB}{st:List Int}{b:Nat}{A:ao}{σ:List al}
def rf.acc(h:rf D l st b A σ) (hb:3<b){w:List Bool}:rf D l st b {A with accept:=w} (ar σ 3 ⟨none,w.map .bool,.live⟩):=
 ⟨h.m.nE,by rw[aA aa];exact h.b,by rw[aA aa];exact h.s,by rw[aA aa];exact h.z⟩
variable{s:Nat}{w:List Int}
def rf.aQ(h:rf D l st b A σ)(hs:s<A.inner.length) (hb:fp (D.n.aE l.length) (.rw .aQ s)+2<b)(hl:w.length=(A.cE .aQ s).length):rf D l st b {A with inner:=A.inner.set s w} (ar σ (fp (D.n.aE l.length) (.rw .aQ s)+2) (Zb w)):=
 ⟨h.m.nG hs hl,by rw[aA aa];exact h.b,by rw[aA aa];exact h.s,by rw[aA aa];exact h.z⟩
def rf.pop(h:rf D l st b A σ){g:Nat}(hs:s<A.pop.length) (hg:g<(A.bD s).length) (hb:fp (D.n.aE l.length) (.pg s g)+2<b)(hl:w.length=(A.cH s g).length):rf D l st b {A with pop:=A.pop.set s ((A.bD s).set g w)} (ar σ (fp (D.n.aE l.length) (.pg s g)+2) (Zb w)):=
 ⟨h.m.nH hs hg hl,by rw[aA aa];exact h.b,by rw[aA aa];exact h.s,by rw[aA aa];exact h.z⟩
variable{cls:List Int}{a J R:Nat}
def rf.ls{G:Nat}(h:rf D l st b A σ) (hT:mI D cls l st a s J G R A) (hk:l.length ≠ 0):aq σ (9+D.n.aE l.length+2)=some ⟨none,(List.range l.length).map λi=>iA (fp (D.n.aE l.length) (.rw .aQ i)+2) D.n.ak.toNat,.live⟩:=by
 have:=h.m.has (.ls .aQ) _ (ad λe=>by have:=hT.li;rw[show A.inner=[]from e]at this;exact hk this.symm)
 rw[show aq σ (9+D.n.aE l.length+2)=_ from this];rw[show(A.tb .aQ).length=l.length from hT.li]
 congr 2
 exact eM λi hi=>by rw[hT.qG i (bQ.1 hi)]
def rf.po{G:Nat}(h:rf D l st b A σ) (hT:mI D cls l st a s J G R A) (hk:l.length ≠ 0):aq σ (10+D.n.aE l.length+2)=some ⟨none,(List.range l.length).map λi=>iA (fp (D.n.aE l.length) (.pr i)+2) (D.n.aE l.length),.live⟩:=by
 have:=h.m.has .po _ (ad λe=>by have:=hT.lp;rw[e]at this;exact hk this.symm)
 rw[show aq σ (10+D.n.aE l.length+2)=_ from this];rw[hT.lp]
 congr 2
 exact eM λi hi=>by rw[hT.nK i (bQ.1 hi)]
variable{i:Nat}
def rf.pr{G:Nat}(h:rf D l st b A σ) (hT:mI D cls l st a s J G R A)(hi:i<l.length):aq σ (fp (D.n.aE l.length) (.pr i)+2)=some ⟨none,(List.range (D.n.aE l.length)).map λg=>iA (fp (D.n.aE l.length) (.pg i g)+2) D.n.ah.toNat,.live⟩:=by
 have:=h.m.has (.pr i) _ (ae (by rw[hT.lp];exact hi))
 rw[this,hT.nK i hi]
 congr 2
 exact eM λg hg=>by rw[hT.qH i g hi (bQ.1 hg)]
def anr (D:Vd) (cls:List Int) (l:List iB) (h:XX D cls l) :
  LX L Cw [D.vcs.av,iL cls,MG l] [] (λr τ=>∃st:List Int,bP τ false r=some (tH D cls l st).av/\st.length=l.length/\∀i:Nat,i<l.length->ix st (v8 l i)=i):=by
 refine ai4 rfl ?_;obtain⟨MD,pS⟩:=h.k;simp[-aj,-List.map_replicate];refine⟨aa,?_⟩
 refine aK (λq:Nat×List Int=>[(3,.int q.1)]) (λq=>[⟨some 10,[.int 0,.int 0,.int 0,.int 0,.int 0,.ag,.ag,.ag,.ag,.ag],.live⟩,Zb q.2]) (λq=>q.1<=l.length/\q.2.length=l.length/\∀i:Nat,i<q.1->ix q.2 (v8 l i)=i) (λq=>l.length-q.1) (0,List.replicate l.length 0) aX ⟨ab,ab,λi hi=>by dsimp only at hi;omega⟩ ?_
 rintro⟨i,st⟩ ⟨i0,J,P⟩;dsimp only at i0 J P ⊢
 by_cases hi:i<l.length
 .have hc:=h.c _ (aJ (l:=l) (n:=(i:Int)) aa aa)
  simp[-aj,-List.map_replicate,hi,mD];refine⟨hc,J,aa,aa,aD (i+1,st.set (ix l (i:Int)).1.toNat i) ab na ⟨au,by simp[J],λj hj=>?_⟩ au⟩
  dsimp only at hj ⊢;have XZ:=h.c _ (aJ (l:=l) (n:=(j:Int)) aa aa)
  rw[zT (show 0<=v8 l j from XZ.1) (by rw[J];exact XZ.2)]
  by_cases e:j=i
  .subst e;rw[ae (by unfold v8;omega)]
  .rw[ad,P j aa]
   intro R;have hjl:j<l.length:=aa
   have h1:(l.map λc=>c.1)[j]'(by simpa using hjl)=(l.map λc=>c.1)[i]' mM:=by
    rw[lI,lI,<-aB hjl,<-aB hi];unfold v8 at R;omega
   exact e ((rN h.nd).1 h1)
 .have ei:i=l.length:=by omega
  subst ei;obtain⟨rv,τ,hF,UK,hA⟩:=dd (UI D.n h.vo.ok l.length pS h.kc);have UL:=UJ (D:=D) (cls:=cls) (st:=st) (l:=l);rw[UL.bV aa]at UK
  subst UK;have UM : L w5 [.agg [.int D.n.calls,.int D.n.ak,.int D.n.ah,.int D.n.stack,.int D.n.start,.aF false (D.n.accept.map .bool),.aF false (D.n.call.map iL),.aF false (D.n.push.map iL),.aF false (D.n.inner.map iL),.aF false (D.n.pop.map b8)],.int l.length] []=some (.agg [.int D.n.calls,.int D.n.ak,.int D.n.ah,.int ((D.n.aE l.length:Nat):Int),.int 0,.sl 1 l.length 0 l.length,.sl (6+D.n.aE l.length) l.length 0 l.length,.sl (7+D.n.aE l.length) l.length 0 l.length,.sl (9+D.n.aE l.length) l.length 0 l.length,.sl (10+D.n.aE l.length) l.length 0 l.length],τ):=hF;have KS:=hA.shift [⟨some 10,[.int 0,.int 0,.int 0,.int 0,.int 0,.ag,.ag,.ag,.ag,.ag],.live⟩,Zb st];obtain⟨a,u⟩:∃s,([⟨some 10,[.int 0,.int 0,.int 0,.int 0,.int 0,.ag,.ag,.ag,.ag,.ag],.live⟩,Zb st]:List al)++τ.map (gH 2)=s:=⟨_,rfl⟩;have e1:∀Y:List al,(⟨some 10,[.int 0,.int 0,.int 0,.int 0,.int 0,.ag,.ag,.ag,.ag,.ag],.live⟩:al)::⟨none,st.map .int,.live⟩::(τ.map (gH 2)++Y)=a++Y:=λY=>by rw[<-u];rfl
  have R:τ.length+1+1=a.length:=by rw[<-u];simp
  have H:AS (D.n.dT l.length l.length) (λt=>fp (D.n.aE l.length) t+2) a:=by rw[<-u];exact KS
  have eb:∀Y:al,aq (a ++ [Y]) a.length=some Y:=λY=>gU;have es:∀Y Z:al,ar (a ++ [Y]) a.length Z=a ++ [Z]:=λY Z=>Ao;have G:aq a 1=some (Zb st):=by rw[<-u];rfl
  have ant:aq a 0=some ⟨some 10,[.int 0,.int 0,.int 0,.int 0,.int 0,.ag,.ag,.ag,.ag,.ag],.live⟩:=by rw[<-u];rfl
  simp[-aj,-List.map_replicate,UM, js,kL,e1,R,eb,es];have e3:∀Y Z:al,(⟨some 10,[.int 0,.int 0,.int 0,.int 0,.int 0,.ag,.ag,.ag,.ag,.ag],.live⟩:al)::⟨none,st.map .int,.live⟩::ar (τ.map (gH 2) ++ [Y]) τ.length Z=a ++ [Z]:=λY Z=>by
   rw[show ar (τ.map (gH 2) ++ [Y]) τ.length Z=τ.map (gH 2) ++ [Z]from by have:=Ao (Q:=τ.map (gH 2)) (B:=Y) (C:=Z);rwa [dA]at this,e1]
  simp only[e3];clear es eb e1 R e3 UM hF;have pac:=H.lt (t:=.ac) rfl;have prw:∀s,s<l.length->fp (D.n.aE l.length) (.rw .aQ s)+2<a.length:=λs P=>H.lt (t:=.rw .aQ s) (ae (by rw[nI];exact P))
  have ppg:∀s g,s<l.length->g<D.n.aE l.length->fp (D.n.aE l.length) (.pg s g)+2<a.length:=λs g P hg=>H.lt (t:=.pg s g) (ae ⟨by rw[nJ];exact P,by rw[(kZ P).2.2.2];simpa using hg⟩)
  refine aK (λq:Nat×ao×List al=>[(9,.int q.1)]) (λq=>q.2.2) (λq=>q.1<=l.length/\mI D cls l st q.1 q.1 0 0 0 q.2.1/\rf D l st a.length q.2.1 q.2.2) (λq=>l.length-q.1) (0,D.n.dT l.length l.length,a ++ [⟨some 10,[.int D.n.calls,.int D.n.ak,.int D.n.ah,.int ((D.n.aE l.length:Nat):Int),.int 0,.sl 3 l.length 0 l.length,.sl (6+D.n.aE l.length+2) l.length 0 l.length,.sl (7+D.n.aE l.length+2) l.length 0 l.length,.sl (9+D.n.aE l.length+2) l.length 0 l.length,.sl (10+D.n.aE l.length+2) l.length 0 l.length],.live⟩]) aX ⟨ab,UL,H.other λt B hB=>dH (H.lt hB),gU,gz G,gz ant⟩ ?_
  rintro⟨s,A,σ⟩ ⟨s0,hT,hM⟩;dsimp only at s0 hT hM ⊢;have UN:=hM.b;have xz:=hM.z
  by_cases d:s<l.length
  .have hv:=h.v _ (aJ (l:=l) (n:=(s:Int)) aa aa)
   have A7:=hM.m.has .ac _ rfl;have hK:=h.vo.st _ (aJ (l:=D.K) hv.1 hv.2);have wv:=h.s0;have M:=h.s1;unfold Vd.iV at M;have hn:=h.vo.ok;have hK1:=hK.1 _ (aJ (l:=ix D.K (ix l (s:Int)).2.1) M.1 (by rw[hK.2];exact M.2))
   rw[show fp (D.n.aE l.length) .ac+2=3 from rfl]at A7 pac;have UO:=hT.la;simp[-aj,-List.map_replicate,d,mD,UN,A7,hv,hK,wv,M,hK1,hn.start,UO];have jx:=h.vn.inl (ix l (s:Int)).2.1.toNat aa
   rw[show(((ix l (s:Int)).2.1.toNat:Nat):Int)=(ix l (s:Int)).2.1 by omega]at jx
   have Xo:=h.vn.f.i;have hfb:=h.vn.f.b;have EA:=h.vn.n;have sO:=h.vn.c;have XL:=h.vn.r;refine⟨aa,?_⟩
   have hT1:=hT.nE d;have hM1:=hM.acc pac (w:=A.accept.set s (D.ac D.iV (xy l s)));rw[o8]at hM1;have S:∀y,0<=y->y<(D.K.length:Int)->0<=ix cls y/\ix cls y<(st.length:Int):=λy y0 y1=>by
    have:=h.cr _ (aJ (l:=cls) y0 (by rw[h.cl];exact y1))
    rw[J];exact this
   refine aK (λq:Nat×ao×List al=>[(15,.int q.1)]) (λq=>q.2.2) (λq=>q.1<=D.n.ak.toNat/\mI D cls l st (s+1) s q.1 0 0 q.2.1/\rf D l st a.length q.2.1 q.2.2) (λq=>D.n.ak.toNat-q.1) (0,_,_) (by simp[du];rfl) ⟨ab,hT1,hM1⟩ ?_
   rintro⟨j,A2,MB⟩ ⟨j0,x,F⟩;dsimp only at j0 x F ⊢;have anu:=F.b;have R:ix (List.range l.length) (s:Int)=s:=by rw[aB (by simpa using d)];simp
   have e3:ix (List.range l.length) (0+(s:Int)*1)=s:=by rw[<-R];congr 1;omega
   by_cases hj:j<D.n.ak.toNat
   .have U:=az (show(j:Int)<(((ix D.IN (ix l (s:Int)).2.1).length:Nat):Int)by omega)
    have V:=jx.2 _ (aJ (l:=ix D.IN (ix l (s:Int)).2.1) (n:=(j:Int)) aa aa)
    have I:=S _ V.1 V.2;have KZ:=F.ls x aa
    have Di:=F.m.has (.rw .aQ s) _ (ae (by rw[show(A2.tb .aQ).length=l.length from x.li];exact d))
    have qF:=x.qG s d;have W:=F.s;have X:=h.cl;simp[-aj,-List.map_replicate,U,anu,KZ,d,R,e3,Di,kF,W];refine⟨by rw[X];exact V,⟨I.1,by rw[<-J];exact I.2⟩,J,aa,aa,qF,aa,aa,aD (j+1,{A2 with inner:=A2.inner.set s ((A2.cE .aQ s).set j (DI D cls l st s j))},ar MB (fp (D.n.aE l.length) (.rw .aQ s)+2) (Zb ((A2.cE .aQ s).set j (DI D cls l st s j)))) ab ?_ ⟨au,x.nG d hj,F.aQ (by rw[x.li];exact d) (prw s d) ab⟩ au⟩
    dsimp only;rw[Zb,List.map_set];rfl
   .have U:=bX (show ¬(j:Int)<(((ix D.IN (ix l (s:Int)).2.1).length:Nat):Int)by omega)
    have ej:j=D.n.ak.toNat:=aa
    rw[ej]at x;simp[-aj,-List.map_replicate,U];refine aK (λq:Nat×ao×List al=>[(20,.int q.1)]) (λq=>q.2.2) (λq=>q.1<=l.length/\mI D cls l st (s+1) s D.n.ak.toNat (q.1*D.n.calls.toNat) 0 q.2.1/\rf D l st a.length q.2.1 q.2.2) (λq=>l.length-q.1) (0,A2,MB) aX ⟨ab,by simpa using x,F⟩ ?_
    rintro⟨p,A3,Aj⟩ ⟨p0,N,hM3⟩;dsimp only at p0 N hM3 ⊢
    by_cases hp:p<l.length
    .have hvp:=h.v _ (aJ (l:=l) (n:=(p:Int)) aa aa)
     simp[-aj,-List.map_replicate,hp,mD];refine aK (λq:Nat×ao×List al=>[(23,.int q.1)]) (λq=>q.2.2) (λq=>q.1<=D.n.calls.toNat/\mI D cls l st (s+1) s D.n.ak.toNat (p*D.n.calls.toNat+q.1) 0 q.2.1/\rf D l st a.length q.2.1 q.2.2) (λq=>D.n.calls.toNat-q.1) (0,A3,Aj) aX ⟨ab,N,hM3⟩ ?_
     rintro⟨c,A4,ME⟩ ⟨c0,O,hM4⟩;dsimp only at c0 O hM4 ⊢
     by_cases hc:c<D.n.calls.toNat
     .have EZ:=az (show(c:Int)<D.n.calls by omega)
      have Kq:=h.vn.r8 (ix l (p:Int)).2.1.toNat c (ix l (s:Int)).2.1.toNat aa hc aa
      unfold Vd.bV Vd.row at Kq;rw[show(((ix l (p:Int)).2.1.toNat:Nat):Int)=(ix l (p:Int)).2.1 by omega,show(((ix l (s:Int)).2.1.toNat:Nat):Int)=(ix l (s:Int)).2.1 by omega]at Kq
      have Ew:=h.vn.rl (ix l (p:Int)).2.1.toNat aa
      unfold Vd.row at Ew;have Mv:=h.vn.f.c (ix l (p:Int)).2.1.toNat c aa hc
      unfold Vd.bV Vd.row at Mv;rw[show(((ix l (p:Int)).2.1.toNat:Nat):Int)=(ix l (p:Int)).2.1 by omega]at Ew Mv
      have x1:=az (show(ix l (p:Int)).2.1<(D.BL.length:Int)by omega)
      have x2:=az (show(c:Int)<((ix D.BL (ix l (p:Int)).2.1).length:Int)by omega)
      have x3:=az (show(ix l (s:Int)).2.1<((ix (ix D.BL (ix l (p:Int)).2.1) (c:Int)).length:Int)by omega)
      have y1:=az hvp.1;have y2:=az hv.1;simp[-aj,-List.map_replicate,EZ,x1,x2,x3,y1,y2];refine aK (λq:Nat×ao×List al=>[(27,.int q.1)]) (λq=>q.2.2) (λq=>q.1<=D.n.ah.toNat/\mI D cls l st (s+1) s D.n.ak.toNat (p*D.n.calls.toNat+c) q.1 q.2.1/\rf D l st a.length q.2.1 q.2.2) (λq=>D.n.ah.toNat-q.1) (0,A4,ME) aX ⟨ab,O,hM4⟩ ?_
      rintro⟨r,A5,σ5⟩ ⟨r0,o,E⟩;dsimp only at r0 o E ⊢
      by_cases hr:r<D.n.ah.toNat
      .have E0:=az (show(r:Int)<(((ix (ix (ix D.BL (ix l (p:Int)).2.1) (c:Int)) (ix l (s:Int)).2.1).length:Nat):Int)by omega)
       have V:=Kq.2 _ (aJ (l:=ix (ix (ix D.BL (ix l (p:Int)).2.1) (c:Int)) (ix l (s:Int)).2.1) (n:=(r:Int)) aa aa)
       have I:=S _ V.1 V.2;have anv:=E.b;have EV:=E.po o aa
       have DJ:=E.pr o d;have W:=E.s;have X:=h.cl;have hG:p*D.n.calls.toNat+c<D.n.aE l.length:=by
        have h1:p*D.n.calls.toNat+D.n.calls.toNat<=l.length*D.n.calls.toNat:=rJ
        show _<max 1 (l.length*D.n.calls.toNat);omega
       have hGi:(p:Int)*D.n.calls+(c:Int)=((p*D.n.calls.toNat+c:Nat):Int):=rK
       have Ae:D.n.aE l.length<=128:=by have:=h.kc;show max 1 (l.length*D.n.calls.toNat)<=128;omega
       have X0:=E.m.has (.pg s (p*D.n.calls.toNat+c)) _ (ae ⟨by rw[o.lp];exact d,by rw[o.nK s d];exact hG⟩)
       have sb:=o.qH s _ d hG;have Kk:0<=(p:Int)*D.n.calls/\(p:Int)*D.n.calls<=128:=by
        have:(p:Int)*D.n.calls=((p*D.n.calls.toNat:Nat):Int):=o6
        omega
       have X1:vg D cls l st s (p*D.n.calls.toNat+c) r=ix st (ix cls (ix (ix (ix (ix D.BL (ix l (p:Int)).2.1) (c:Int)) (ix l (s:Int)).2.1) (r:Int))):=by
        unfold vg;rw[ad aa,show(p*D.n.calls.toNat+c)/D.n.calls.toNat=p from by rw[mO,Nat.mul_add_div aa,Nat.div_eq_of_lt hc,kf],show(p*D.n.calls.toNat+c)%D.n.calls.toNat=c from by rw[mO,Nat.mul_add_mod,Nat.mod_eq_of_lt hc]]
        rfl
       have hTn:=o.nH d hG hr;have hMn:=E.pop (w:=(A5.cH s (p*D.n.calls.toNat+c)).set r (vg D cls l st s (p*D.n.calls.toNat+c) r)) (by rw[o.lp];exact d) (by rw[o.nK s d];exact hG) (ppg s _ d hG) ab
       have f2:ix (List.range (D.n.aE l.length)) ((p*D.n.calls.toNat+c:Nat):Int)=p*D.n.calls.toNat+c:=by rw[aB (by simpa using hG)];simp
       generalize p*D.n.calls.toNat+c=g at *;have f3:ix (List.range (D.n.aE l.length)) (0+(g:Int)*1)=g:=by rw[<-f2];congr 1;rw[f2];omega
       simp[-aj,-List.map_replicate,E0,anv,EV,d,R,e3,DJ,hGi,f2,f3,hG,X0,W];refine⟨aa,aa,by rw[X];exact V,⟨I.1,by rw[<-J];exact I.2⟩,J,aa,aa,sb,aa,aa,aD (r+1,_,_) ab ?_ ⟨au,hTn,hMn⟩ au⟩
       dsimp only;rw[Zb,List.map_set,X1]
      .have E0:=bX (show ¬(r:Int)<(((ix (ix (ix D.BL (ix l (p:Int)).2.1) (c:Int)) (ix l (s:Int)).2.1).length:Nat):Int)by omega)
       have er:r=D.n.ah.toNat:=aa
       rw[er]at o;simp[-aj,-List.map_replicate,E0];exact⟨aa,aD (c+1,A5,σ5) ab rfl ⟨au,o.Aq,E⟩ au⟩
     .have EZ:=bX (show ¬(c:Int)<D.n.calls by omega)
      have ec:c=D.n.calls.toNat:=aa
      have epc:p*D.n.calls.toNat+c=(p+1)*D.n.calls.toNat:=by rw[ec,fh,Nat.one_mul]
      rw[epc]at O;simp[-aj,-List.map_replicate,EZ];exact⟨aa,aD (p+1,A4,ME) ab rfl ⟨au,O,hM4⟩ au⟩
    .have ep:p=l.length:=by omega
     rw[ep]at N;simp[-aj,-List.map_replicate,hp];exact⟨aa,aD (s+1,A3,Aj) ab rfl ⟨au,N.Ar,hM3⟩ au⟩
  .have es:s=l.length:=by omega
   subst es;have G:∀B:al,aq (ar σ 0 B) 0=some B:=λB=>bU (by have:=cU xz;omega)
   have Gm:=λ(ce:CE) (c0 c1 c2 c3 c4 c5 c6 c7 c8 c9:AV)=>oI (ce:=ce) (σ:=ar σ 0 ⟨some 10,[c0,c1,c2,c3,c4,c5,c6,c7,c8,c9],.live⟩) (n:=0) (G _);have MA:=λB:al=>(hM.m.other (τ:=ar σ 0 B) λt C hC=>aA aa).view
   rw[hT.fin]at MA;have T:=hT.bV aa (λt=>fp (D.n.aE l.length) t+2)
   rw[hT.fin]at T;rw[T]at MA;simp[-aj,-BZ,UN,xz,G,Gm];exact⟨st,MA _,J,P⟩
def anw (D:Vd) (cls:List Int) (l:List iB) (h:XX D cls l):∃st:List Int,PC Cw [D.vcs.av,iL cls,MG l]=some (tH D cls l st).av/\st.length=l.length/\∀i:Nat,i<l.length->ix st (v8 l i)=i:=DC (g:=λst:List Int=>(tH D cls l st).av) (R:=λst=>st.length=l.length/\∀i:Nat,i<l.length->ix st (v8 l i)=i) (anr D cls l h)
def DK:AV->Bool
 |.sl ..=>false
 |.ptr ..=>false
 |.agg _=>false
 |.bM _=>false
 |.func ..=>false
 |.iface ..=>false
 |_=>true
variable{f:Nat}{x:AV}
def K0(h:DK x=true){acc:List Nat}:reach σ f x acc=acc:=by
 cases f with
 |zero=>rfl
 |succ f=>cases x<;>first|rfl|(simp[DK]at h)
def K4{σ:List al}{f:Nat}:∀(l:List AV) (acc:List Nat),(∀x∈l,DK x=true)->l.foldl (λacc y=>reach σ f y acc) acc=acc
 | [],_,_=>rfl
 |x::l,acc,h=>by
  rw[jW,K0 (h x ab)]
  exact K4 l acc λy a=>h y fm
variable{u o n:Nat}{B:al}
def UP(a:aq σ b=some B){acc:List Nat}(d:b∉acc):reach σ (f+1) (.sl b u o n) acc=B.cells.foldl (λacc y=>reach σ f y acc) (b::acc):=by
 simp only[reach,a];rw[ad (by simpa using d)]
def UQ(a:aq σ b=some B){acc:List Nat}(d:b∉acc):reach σ (f+1) (.ptr b u o) acc=B.cells.foldl (λacc y=>reach σ f y acc) (b::acc):=by
 simp only[reach,a];rw[ad (by simpa using d)]
def DL(a:aq σ b=some B) (h:∀x∈B.cells,DK x=true){acc:List Nat}:reach σ (f+1) (.sl b u o n) acc=if acc.contains b then acc else b::acc:=by
 simp only[reach,a];rw[K4 _ _ h]
def K5{acc:List Nat}:b∈(if acc.contains b then acc else b::acc)/\∀x,(x∈acc->x∈(if acc.contains b then acc else b::acc))/\(x∈(if acc.contains b then acc else b::acc)->x∈acc\/x=b):=by
 by_cases h:acc.contains b=true
 .rw[ae h]
  exact⟨cq,λx=>⟨id,.inl⟩⟩
 .rw[ad h]
  exact⟨ab,λx=>⟨λa=>fm,λa=>by rcases b5.1 a with a|a;exact .inr a;exact .inl a⟩⟩
def K6{b e:Type}{g:Nat->e}{f:b->e->b}{I:Nat->b->Prop}:∀(n:Nat) (a:b),I 0 a->(∀k a,k<n->I k a->I (k+1) (f a (g k)))->I n (((List.range n).map g).foldl f a)
 |0,a,d,_=>d
 |n+1,a,d,h=>by
  rw[jh,jE,List.foldl_append];exact h n _ aa (K6 n a d λk a i=>h k a aa)
def Tg.seen:Tg->Bool
 |.mp=>false
 |.old _=>false
 |_=>true
def UR(i:n ≠ 0->aq σ b=some B) (h:∀x∈B.cells,DK x=true){acc:List Nat}:(n ≠ 0->b∈reach σ (f+1) (cu b n) acc)/\∀x,(x∈acc->x∈reach σ (f+1) (cu b n) acc)/\(x∈reach σ (f+1) (cu b n) acc->x∈acc\/n ≠ 0/\x=b):=by
 by_cases d:n=0
 .subst d
  exact⟨λh=>absurd rfl h,λx=>⟨id,.inl⟩⟩
 .rw[show cu b n = .sl b n 0 n from ad d,DL (i d) h]
  obtain⟨j,g⟩:=K5 (b:=b) (acc:=acc);exact⟨λ_=>j,λx=>⟨(g x).1,λa=>((g x).2 a).imp id λe=>⟨d,e⟩⟩⟩
variable{O:Nat->Option al}{p:Tg->Nat}
def anx(h:VS D O p σ){x:Nat}(q:x<D.BL.length){acc:List Nat}(m:p (.rw x)∉acc) :
  (p (.rw x)∈reach σ (f+2) (.sl (p (.rw x)) u o n) acc/\∀c,c<(D.row x).length->D.bV x c ≠ []->p (.cl x c)∈reach σ (f+2) (.sl (p (.rw x)) u o n) acc)/\∀b,(b∈acc->b∈reach σ (f+2) (.sl (p (.rw x)) u o n) acc)/\(b∈reach σ (f+2) (.sl (p (.rw x)) u o n) acc->b∈acc\/b=p (.rw x)\/∃c B,D.cont O p (.cl x c)=some B/\b=p (.cl x c)):=by
 have d:=h.has (.rw x) _ (ae q);have e:reach σ (f+2) (.sl (p (.rw x)) u o n) acc=((List.range (D.row x).length).map λc=>cu (p (.cl x c)) (D.bV x c).length).foldl (λacc y=>reach σ (f+1) y acc) (p (.rw x)::acc):=by
  show reach σ ((f+1)+1) _ _=_;simp only[reach,d];rw[ad (by simpa using m)]
  rfl
 rw[e];have key:=K6 (g:=λc=>cu (p (.cl x c)) (D.bV x c).length) (f:=λacc y=>reach σ (f+1) y acc) (I:=λk a=>(∀c,c<k->D.bV x c ≠ []->p (.cl x c)∈a)/\∀b,(b∈p (.rw x)::acc->b∈a)/\(b∈a->b∈p (.rw x)::acc\/∃c B,D.cont O p (.cl x c)=some B/\b=p (.cl x c))) (D.row x).length (p (.rw x)::acc) ⟨λc z=>aa,λb=>⟨id,.inl⟩⟩ λk a w ⟨i1,j⟩=>by
  have r:(D.bV x k).length ≠ 0->aq σ (p (.cl x k))=some ⟨none,(D.bV x k).map wI,.live⟩:=λi=>h.has (.cl x k) _ (ae ⟨q,w,λe=>i fK⟩)
  obtain⟨A,s⟩:=UR (σ:=σ) (f:=f) r (λy C=>by obtain⟨l,_,rfl⟩:=cx.1 C;rfl) (acc:=a)
  refine⟨λc z i=>?_,λb=>⟨λd=>(s b).1 ((j b).1 d),λd=>?_⟩⟩
  .by_cases ec:c=k
   .subst ec;exact A λe=>i (dY e)
   .exact(s _).1 (i1 c aa i)
  .rcases(s b).2 d with d|⟨i,rfl⟩
   .exact(j b).2 d
   .exact .inr ⟨k,_,ae ⟨q,w,λe=>i fK⟩,rfl⟩
 generalize ((List.range (D.row x).length).map λc=>cu (p (.cl x c)) (D.bV x c).length).foldl (λacc y=>reach σ (f+1) y acc) (p (.rw x)::acc)=a at *;obtain⟨i1,j⟩:=key;refine⟨⟨(j _).1 ab,i1⟩,λb=>⟨λd=>(j b).1 fM,λd=>?_⟩⟩
 rcases(j b).2 d with d|d
 .rcases b5.1 d with d|d
  .exact .inr (.inl d)
  .exact .inl d
 .exact .inr (.inr d)
def anz(h:VS D O p σ):(∀t B,t.seen=true->D.cont O p t=some B->p t∈reach σ vd (.ptr (p .v) 16 0) [])/\∀b,b∈reach σ vd (.ptr (p .v) 16 0) []->∃t B,t.seen=true/\D.cont O p t=some B/\b=p t:=by
 have hv:=h.has .v _ rfl;have R:=h.has .pl _ rfl;have S:=h.has .ls _ rfl;have e0:reach σ vd (.ptr (p .v) 16 0) []=(D.box p).cells.foldl (λacc y=>reach σ 11 y acc) [p .v]:=by
  exact UQ (f:=11) hv ab
 have e1:(D.box p).cells.foldl (λacc y=>reach σ 11 y acc) [p .v]=reach σ 11 (cu (p .bl) D.BL.length) (reach σ 11 (cu (p .aQ) D.IN.length) (reach σ 11 (.sl (p .ls) D.K.length 0 D.K.length) (reach σ 11 (.sl (p .pl) D.plc.length 0 D.plc.length) [p .v]))):=rfl;rw[e0,e1,DL (f:=10) R (λy H=>by obtain⟨l,_,rfl⟩:=cx.1 H;rfl),DL (f:=10) S (λy H=>by obtain⟨l,_,rfl⟩:=cx.1 H;rfl)]
 obtain⟨a1,X⟩:=K5 (b:=p .pl) (acc:=[p .v]);generalize (if[p .v].contains (p .pl)then[p .v]else p .pl :: [p .v])=N at *
 obtain⟨b1,T⟩:=K5 (b:=p .ls) (acc:=N);generalize (if N.contains (p .ls)then N else p .ls::N)=Y at *
 have U:D.IN.length ≠ 0->aq σ (p .aQ)=some ⟨none,D.IN.map wI,.live⟩:=λj=>h.has .aQ _ (ad λe=>j fK)
 obtain⟨Z,P⟩:=UR (σ:=σ) (f:=10) U (λy H=>by obtain⟨l,_,rfl⟩:=cx.1 H;rfl) (acc:=Y)
 generalize reach σ 11 (cu (p .aQ) D.IN.length) Y=w at *;have F:∀b,b∈w->b=p .v\/b=p .pl\/b=p .ls\/(D.IN.length ≠ 0/\b=p .aQ):=λb d=>by
  rcases(P b).2 d with d|d
  .rcases(T b).2 d with d|d
   .rcases(X b).2 d with d|d
    .simp at d;exact .inl d
    .exact .inr (.inl d)
   .exact .inr (.inr (.inl d))
  .exact .inr (.inr (.inr d))
 have v3:p .v∈w:=(P _).1 ((T _).1 ((X _).1 ab))
 have J:p .pl∈w:=(P _).1 ((T _).1 a1);have L:p .ls∈w:=(P _).1 b1;have z:D.IN.length ≠ 0->∃B,D.cont O p .aQ=some B:=λj=>⟨_,ad λe=>j fK⟩
 by_cases A:D.BL.length=0
 .rw[show cu (p .bl) D.BL.length = .ag by rw[A];rfl,show reach σ 11 .ag w=w from rfl]
  have C : D.BL=[]:=dY A;refine⟨λt B M m=>?_,λb d=>?_⟩
  .cases t with
   |v=>exact v3
   |pl=>exact J
   |ls=>exact L
   |aQ=>exact Z λe=>by simp[Vd.cont,dY e]at m
   |mp=>simp[Tg.seen]at M
   |old i=>simp[Tg.seen]at M
   |bl=>simp[Vd.cont,C]at m
   |rw x=>simp[Vd.cont,C]at m
   |cl x c=>simp[Vd.cont,C]at m
  .rcases F b d with rfl|rfl|rfl|⟨j,rfl⟩
   .exact⟨.v,_,rfl,rfl,rfl⟩
   .exact⟨.pl,_,rfl,rfl,rfl⟩
   .exact⟨.ls,_,rfl,rfl,rfl⟩
   .obtain⟨B,A⟩:=z j
    exact⟨.aQ,B,rfl,A,rfl⟩
 .have C : D.BL ≠ []:=λe=>A fK
  have r:D.cont O p .bl=some (D.ue p):=ad C;have V:=h.has .bl _ r;have nbl:p .bl∉w:=λd=>by
   rcases F _ d with e|e|e|⟨j,e⟩
   .exact h.ne r (u:=.v) rfl ab e
   .exact h.ne r (u:=.pl) rfl ab e
   .exact h.ne r (u:=.ls) rfl ab e
   .obtain⟨B,A⟩:=z j
    exact h.ne r A ab e
  have e2:reach σ 11 (cu (p .bl) D.BL.length) w=((List.range D.BL.length).map λx=>AV.sl (p (.rw x)) (D.row x).length 0 (D.row x).length).foldl (λacc y=>reach σ 10 y acc) (p .bl::w):=by
   rw[show cu (p .bl) D.BL.length = .sl (p .bl) D.BL.length 0 D.BL.length from ad A];exact UP (f:=10) V nbl
  rw[e2];have key:=K6 (g:=λx=>AV.sl (p (.rw x)) (D.row x).length 0 (D.row x).length) (f:=λacc y=>reach σ 10 y acc) (I:=λk a=>(∀x,x<k->p (.rw x)∈a/\∀c,c<(D.row x).length->D.bV x c ≠ []->p (.cl x c)∈a)/\∀b,(b∈p .bl::w->b∈a)/\(b∈a->b∈p .bl::w\/∃x,x<k/\(b=p (.rw x)\/∃c B,D.cont O p (.cl x c)=some B/\b=p (.cl x c)))) D.BL.length (p .bl::w) ⟨λx E=>aa,λb=>⟨id,.inl⟩⟩ λk a hk ⟨i1,G⟩=>by
   have s:D.cont O p (.rw k)=some (D.kF p k):=ae hk;have nk:p (.rw k)∉a:=λd=>by
    rcases(G _).2 d with d|⟨x,E,e|⟨c,B,m,e⟩⟩
    .rcases b5.1 d with e|d
     .exact h.ne s r ab e
     .rcases F _ d with e|e|e|⟨j,e⟩
      .exact h.ne s (u:=.v) rfl ab e
      .exact h.ne s (u:=.pl) rfl ab e
      .exact h.ne s (u:=.ls) rfl ab e
      .obtain⟨B,A⟩:=z j
       exact h.ne s A ab e
    .exact h.ne s (u:=.rw x) (ae aa) ax e
    .exact h.ne s m ab e
   obtain⟨⟨r1,r2⟩,Q⟩:=anx h (f:=8) hk (u:=(D.row k).length) (o:=0) (n:=(D.row k).length) nk;refine⟨λx E=>?_,λb=>⟨λd=>(Q b).1 ((G b).1 d),λd=>?_⟩⟩
   .by_cases e:x=k
    .subst e;exact⟨r1,r2⟩
    .obtain⟨q1,q2⟩:=i1 x aa
     exact⟨(Q _).1 q1,λc m j=>(Q _).1 (q2 c m j)⟩
   .rcases(Q b).2 d with d|d
    .rcases(G b).2 d with d|⟨x,E,q⟩
     .exact .inl d
     .exact .inr ⟨x,aa,q⟩
    .exact .inr ⟨k,aa,d⟩
  generalize ((List.range D.BL.length).map λx=>AV.sl (p (.rw x)) (D.row x).length 0 (D.row x).length).foldl (λacc y=>reach σ 10 y acc) (p .bl::w)=a at *;obtain⟨i1,G⟩:=key;have up:∀b,b∈w->b∈a:=λb d=>(G b).1 fM
  refine⟨λt B M m=>?_,λb d=>?_⟩
  .cases t with
   |v=>exact up _ v3
   |pl=>exact up _ J
   |ls=>exact up _ L
   |aQ=>exact up _ (Z λe=>by simp[Vd.cont,dY e]at m)
   |mp=>simp[Tg.seen]at M
   |old i=>simp[Tg.seen]at M
   |bl=>exact(G _).1 ab
   |rw x=>
    have E:x<D.BL.length:=dF λW=>by simp[Vd.cont,W]at m
    exact(i1 x E).1
   |cl x c=>
    have E:x<D.BL.length/\c<(D.row x).length/\D.bV x c ≠ []:=dF λW=>by
     have m:(if x<D.BL.length/\c<(D.row x).length/\D.bV x c ≠ []then some _ else none)=some B:=m
     rw[ad W]at m;simp at m
    exact(i1 x E.1).2 c E.2.1 E.2.2
  .rcases(G b).2 d with d|⟨x,E,rfl|⟨c,B,m,rfl⟩⟩
   .rcases b5.1 d with rfl|d
    .exact⟨.bl,_,rfl,r,rfl⟩
    .rcases F b d with rfl|rfl|rfl|⟨j,rfl⟩
     .exact⟨.v,_,rfl,rfl,rfl⟩
     .exact⟨.pl,_,rfl,rfl,rfl⟩
     .exact⟨.ls,_,rfl,rfl,rfl⟩
     .obtain⟨B,A⟩:=z j
      exact⟨.aQ,B,rfl,A,rfl⟩
   .exact⟨.rw x,_,rfl,ae E,rfl⟩
   .exact⟨.cl x c,B,rfl,m,rfl⟩
def VS.US{τ:List al}(h:VS D O p σ) (hb:∀t B,t.seen=true->D.cont O p t=some B->aq τ (p t)=some B):Ab.view τ false vd (.ptr (p .v) 16 0)=some D.vcs.av:=by
 have hv:=hb .v _ rfl rfl;have hu:upto τ (p .v) 16=some (D.box p):=qz hv rfl rfl;show Ab.view τ false (11+1) _=_;unfold Ab.view;simp only[hu];have hp:part (D.box p).cells 0 (D.box p).k=some (.agg (D.box p).cells):=rfl;rw[ae (by rfl),hp]
 have hm:bJ (Ab.view τ false 10) (D.box p).cells=some [.int D.n.calls,.int D.n.ak,.int D.n.ah,.int D.n.stack,.int D.n.start,bL D.n.accept,b8 D.n.call,b8 D.n.push,b8 D.n.inner,fv D.n.pop,iL D.n.bj,iL D.plc,b8 D.K,.qh,b8 D.IN,nV D.BL]:=by
  unfold Vd.box;refine cG rfl (cG rfl (cG rfl (cG rfl (cG rfl (cG rfl (cG rfl (cG rfl (cG rfl (cG rfl (cG rfl (cG ?_ (cG ?_ (cG rfl (cG ?_ (cG ?_ rfl)))))))))))))))
  .exact dQ (k:=9) (hb .pl _ rfl rfl) rfl rfl λ_ _=>rfl
  .exact dQ (k:=9) (hb .ls _ rfl rfl) rfl rfl λ_ _=>rfl
  .exact qB (k:=9) (λhx=>hb .aQ _ rfl (ad hx)) rfl λ_ _=>rfl
  .have e:nV D.BL = .aF false ((List.range D.BL.length).map λ(x:Nat)=>fv (D.row x)):=by
    unfold Vd.row;rw[qA (f:=fv)]
   rw[e];refine qB (k:=9) (f:=λx=>.sl (p (.rw x)) (D.row x).length 0 (D.row x).length) (λhx=>hb .bl _ rfl (ad λe=>hx fK)) ab λx hx=>?_
   have kT :=bQ.1 hx;have e:fv (D.row x) = .aF false ((List.range (D.row x).length).map λ(c:Nat)=>b8 (D.bV x c)):=by
    unfold Vd.bV;rw[qA (f:=b8)]
   rw[e];refine dQ (k:=8) (f:=λc=>cu (p (.cl x c)) (D.bV x c).length) (hb (.rw x) _ rfl (ae kT)) rfl ab λc hc=>?_
   exact qB (k:=7) (λhz=>hb (.cl x c) _ rfl (ae ⟨kT, bQ.1 hc,hz⟩)) rfl λ_ _=>rfl
 have XJ:Ab.view τ false 11 (.agg (D.box p).cells)=some (.agg [.int D.n.calls,.int D.n.ak,.int D.n.ah,.int D.n.stack,.int D.n.start,bL D.n.accept,b8 D.n.call,b8 D.n.push,b8 D.n.inner,fv D.n.pop,iL D.n.bj,iL D.plc,b8 D.K,.qh,b8 D.IN,nV D.BL]):=by
  show Ab.view τ false (10+1) _=_;unfold Ab.view;simp only[hm]
 simp only[XJ]
variable{vars:List AV}{fl:Option (Nat×AV)}{k:Nat}
def UT{A:al}{Q:Ex->St->Prop}(h:VS D O p σ) (i:nth vars k = .ptr (p .v) 16 0) (j:O b=some A) (l:∀τ,aq τ b=some A->Q .eQ ⟨eu vars k D.vcs.av,fl,τ⟩):W L (.ji k) ⟨vars,fl,σ⟩ Q:=by
 obtain⟨m,n⟩:=anz h;have o:=h.US (τ:=bG (λc=>!(reach σ vd (.ptr (p .v) 16 0) []).contains c) 0 σ) λt B a d=>by
  rw[lL,h.has t B d];simp[m t B a d]
 have q:eE σ (.ptr (p .v) 16 0)=false:=rfl;have r:aq (bG (λc=>(reach σ vd (.ptr (p .v) 16 0) []).contains c) 0 σ) b=some A:=by
  have g:D.cont O p (.old b)=some A:=j;have:=h.has _ _ g;rw[h.old]at this;rw[lL,this];have:b∉reach σ vd (.ptr (p .v) 16 0) []:=λs=>by
   obtain⟨t,B,a,d,e⟩:=n b s;refine h.ne g d (λu=>?_) (by rw[h.old];exact e)
   rw[<-u]at a;simp[Tg.seen]at a
  simp[this]
 refine⟨0,.eQ,_,?_,l _ r⟩;simp only[exec,i,o,q]
 rfl
abbrev T3:=AV×AV×AV
def t3 (t:T3):List AV:=[t.1,t.2.1,t.2.2]
def fR (l:List T3):List AV:=l.flatMap t3
def lS:∀{l:List T3},(fR l).length=3*l.length
 | []=>rfl
 |x::l=>by
  have:=lS (l:=l);show(t3 x++fR l).length=_;rw[aU,this];show 3+_=_;simp;omega
def anA{l m:List T3}:fR (l++m)=fR l++fR m:=by simp[fR]
def xA{l:List T3}(h:i<l.length):fR l=fR (l.take i)++([l[i].1,l[i].2.1,l[i].2.2]++fR (l.drop (i+1))):=by
 have e:l=l.take i++l[i]::l.drop (i+1):=by
  rw[<-List.drop_eq_getElem_cons h,nm]
 exact(congrArg fR e).trans anA
def DM{l:List T3}(h:i<l.length):(fR (l.take i)).length=i*3:=by rw[lS,og,ql aa,mO]
variable{t:T3}
def K7{l:List T3}(h:i<l.length):fR (l.set i t)=fR (l.take i)++([t.1,t.2.1,t.2.2]++fR (l.drop (i+1))):=by
 have a : i<(l.set i t).length:=cq
 rw[xA a, List.take_set_of_le aa,List.drop_set_of_lt aa]
 simp
def anB{l:List T3}(h:i<l.length):(fR l)[i*3]? = some l[i].1/\(fR l)[i*3+1]? = some l[i].2.1/\(fR l)[i*3+2]? = some l[i].2.2:=by
 have a:=DM h;rw[xA h];refine⟨?_,?_,?_⟩
 .rw[gA aa,a,Nat.sub_self];rfl
 .rw[gA aa,a,Nat.add_sub_cancel_left];rfl
 .rw[gA aa,a,Nat.add_sub_cancel_left];rfl
def anC{l:List T3}(h:i<l.length):ny (fR l) (i*3) [t.1,t.2.1,t.2.2]=fR (l.set i t):=by
 have a:=DM h;rw[<-vO (by rw[lS];simp;omega)]
 unfold putAt;rw[K7 h];rw[show(fR l).take (i*3)=fR (l.take i)by rw[xA h,List.take_append_of_le_length aa,eZ aa],xA h,List.drop_append,a,jY (l:=fR (l.take i)) ax]
 simp
def anD{l:List T3}(h:i<l.length):ny (fR l) (i*3+1) [x]=fR (l.set i (l[i].1,x,l[i].2.2)):=by
 have a:=DM h;rw[lP,K7 h,xA h,List.set_append,ad aa,a,Nat.add_sub_cancel_left]
 rfl
def anE{l:List T3}(h:i<l.length):ny (fR l) (i*3+2) [x]=fR (l.set i (l[i].1,l[i].2.1,x)):=by
 have a:=DM h;rw[lP,K7 h,xA h,List.set_append,ad aa,a,Nat.add_sub_cancel_left]
 rfl
def DN:∀{l:List T3},chunk (some 3) l.length (fR l)=l.map λt=>.agg (t3 t)
 | []=>rfl
 |x::xs=>by
  have e:=DN (l:=xs);rw[cS,<-e];rfl
def sc (x:iB):List iB->List iB
 | []=>[x]
 |y::r=>if aI x.2.2 y.2.2<=0 then x::y::r else y::sc x r
def dx:List iB->List iB
 | []=>[]
 |x::r=>sc x (dx r)
def K8 (x:iB):∀l,(sc x l).Perm (x::l)
 | []=>.refl _
 |y::r=>by
  unfold sc;split
  .exact .refl _
  .exact((K8 x r).cons y).trans (.swap x y r)
def qI:∀l,(dx l).Perm l
 | []=>.refl _
 |x::r=>(K8 x _).trans ((qI r).cons x)
def anF (a b:iB):NS (mD a) (mD b)=decide (aI a.2.2 b.2.2<=0):=by
 show ua aI (iL a.2.2) (iL b.2.2)=_;unfold ua;rw[wE,wE]
def UU (x:iB):∀l:List iB,wG (mD x) (l.map mD)=(sc x l).map mD
 | []=>rfl
 |y::r=>by
  simp only[cS,wG,sc,anF]
  by_cases h:aI x.2.2 y.2.2<=0
  .rw[ae cq,ae h];rfl
  .rw[ad cq,ad h,cS,UU x r]
def UW:∀l:List iB,kA (l.map mD)=(dx l).map mD
 | []=>rfl
 |x::r=>by simp only[cS,kA,dx,UW r,UU]
def UX{x:iB}:∀{l:List iB},l.Pairwise (λa b=>aI a.2.2 b.2.2<0)->(∀y∈l,y.2.2 ≠ x.2.2)->(sc x l).Pairwise λa b=>aI a.2.2 b.2.2<0
 | [],_,_=>by simp[sc]
 |y::r,h,i=>by
  unfold sc;have j:=i y ab
  rw[ku]at h;split
  .rename_i hle
   have g:aI x.2.2 y.2.2<0:=by
    have:aI x.2.2 y.2.2 ≠ 0:=λe=>j (cC.eq _ _ e).symm;omega
   rw[ku,ku];refine⟨λz d=>?_,h.1,h.2⟩;rcases b5.1 d with rfl|d
   .exact g
   .have m:=h.1 z d
    have n:=cC.trans _ _ _ (show aI x.2.2 y.2.2<=0 by omega) (show aI y.2.2 z.2.2<=0 by omega)
    have o:aI x.2.2 z.2.2 ≠ 0:=λe=>by
     have e:=cC.eq _ _ e;rw[<-e]at m;have:=cC.fL y.2.2 x.2.2;omega
    omega
  .rename_i hle
   rw[ku];refine⟨λz d=>?_,UX h.2 λz d=>i z fM⟩
   rcases b5.1 ((K8 x r).mem_iff.1 d)with rfl|d
   .have:=cC.fL y.2.2 z.2.2;omega
   .exact h.1 z d
def K9:∀{l:List iB},(l.map λc=>c.2.2).Nodup->(dx l).Pairwise λa b=>aI a.2.2 b.2.2<0
 | [],_=>by simp[dx]
 |x::r,h=>by
  rw[cS,nj]at h;refine UX (K9 h.2) λy d e=>h.1 ?_;rw[cx];exact⟨y,(qI r).mem_iff.1 d,e⟩
def pL (c:iB):T3:=(.int c.1,.int c.2.1,iL c.2.2)
def UY:∀l:List iB,(l.map mD).flatMap AV.cells=fR (l.map pL)
 | []=>rfl
 |x::r=>by
  rw[cS,iI,UY r];rfl
def anG{p q new:List AV}{off:Nat}(a:p.length=off) (b:q.length=new.length):putAt (p++q) off new=p++new:=by
 subst a;unfold putAt;rw[List.take_left' rfl,jY (l:=p++q) ax,List.append_nil]
abbrev pY (l:List T3):al:=⟨some 3,fR l,.live⟩
def anH (p q:iB) (a:(p.2.2.length:Int)<=1000000) (b:(q.2.2.length:Int)<=1000000):PC zD [mD p,mD q]=some (.int (aI p.2.2 q.2.2)):=by
 refine bZ (ai3 rfl ?_);have:=Dl p.2.2 q.2.2 aa aa
 simp[mD,this]
def anI(h:aq σ b=some (pY (l.map pL))) (E:k=l.length) (M:l.length<=1000) (F:l ≠ []) (B:∀c∈l,(c.2.2.length:Int)<=1000000) (hd:(l.map λc=>c.2.2).Nodup):L Cv [.sl b (3*k) 0 k,.func zD []] σ=some (.bM [],ar σ b (pY ((dx l).map pL))):=by
 subst E;have H:upto σ b (3*l.length)=some (pY (l.map pL)):=qz h (by show(fR (l.map pL)).length=_;rw[lS,dA]) rfl
 have I:=K9 hd;have u:=qI l;have J:∀(i j:Nat) x y,((dx l).map mD)[i]? = some x->((dx l).map mD)[j]? = some y->∃c,jq (lim Ab.G Q) zD (x::y :: [])=some (.int c)/\(c<0↔i<j):=by
  intro i j x y o r;rw[iv]at o r;cases d : (dx l)[i]? with
  |none=>rw[d]at o;simp at o
  |some p=>
   cases g : (dx l)[j]? with
   |none=>rw[g]at r;simp at r
   |some q=>
    rw[d]at o;rw[g]at r;simp at o r;subst o r;refine⟨aI p.2.2 q.2.2,?_,?_⟩
    .have:=anH p q (B p (u.mem_iff.1 (sA d))) (B q (u.mem_iff.1 (sA g)))
     unfold jq;rw[ae (by simp[aC,aR,mD])]
     exact this
    .obtain⟨C,n⟩:=dC.1 d
     obtain⟨D,m⟩:=dC.1 g;have s:=qm.1 I;rcases Nat.lt_trichotomy i j with a|a|a
     .have:=s i j C D a
      rw[n,m]at this;exact⟨λ_=>a,λ_=>this⟩
     .subst a
      rw[n]at m;subst m;have:=cC.refl p.2.2;omega
     .have:=s j i D C a
      rw[n,m]at this;have O:=cC.fL p.2.2 q.2.2;omega
 obtain⟨N,K⟩:=ZY oD J;refine ai2 (N:=N) ?_;have w:¬l.length=0:=λe=>F (dY e);have z:chunk (some 3) l.length (fR (l.map pL))=l.map mD:=by
  have:=DN (l:=l.map pL);rw[dA]at this;rw[this,List.map_map];rfl
 have A:putAt (fR (l.map pL)) 0 (fR ((dx l).map pL))=fR ((dx l).map pL):=by
  have:=anG (p:=[]) (q:=fR (l.map pL)) (new:=fR ((dx l).map pL)) (off:=0) rfl (by rw[lS,lS,dA,dA,u.length_eq])
  simpa using this
 simp only[jB,H,ow,z,UW,UY,A];rw[ad (by simpa using w),ae]
 simp only[lS,dA,aH,eo];refine⟨⟨⟨⟨⟨rfl,rfl⟩,aa⟩,aa⟩,?_⟩,K⟩
 show 3*l.length<=1073741824;omega
def neg (c:iB):Bool:=decide (c.2.1<0)
def anJ (c:iB):PC uW [mD c]=some (.bool (neg c)):=by
 refine bZ (ai1 rfl ?_);simp[mD,neg]
def anK (l:List iB) (n:l.length<=1000):PC JF [MG l,.func uW []]=some (.int (idx neg l)):=by
 refine bZ (ajB rfl ?_);simp[-aj];refine aK (λi:Int=>[(2,.int i)]) (λ_=>[]) (λi=>0<=i/\i<=l.length/\∀j,0<=j->j<i->neg (ix l j)=false) (λi=>(l.length-i).toNat) 0 rfl ax λi ⟨g,o,d⟩=>?_
 by_cases e:i<l.length
 .have m:=anJ (ix l i)
  simp only[mD]at m;simp[-aj,e,g,m,mD];exact⟨λh=>(Sg g e h d).symm,λh=>⟨aa,aD (i+1) ab rfl ⟨aa,aa,lN h d⟩ aa⟩⟩
 .simp[-aj,e]
  rw[Sh λj a b=>d j a aa]
def anL (l:List iB) (a:l.length<=1000):LX L Jp [MG l,.func uW []] [] (λr τ=>r = .bool (l.any neg)):=by
 refine ai0 rfl ?_;simp[anK l a];exact Si
def iS (c:iB):T3:=(.int c.1,.int c.2.1,if c.2.1<0 then .ag else iL c.2.2)
def anM(h:aq σ b=some (pY (l.map iS))) (j:n=l.length) (d:u=3*n) (m:∀c∈l,c.2.1<0->c.2.2=[]):view σ false vd (.sl b u 0 n)=some (MG l):=by
 subst d j;have d:upto σ b (3*l.length)=some (pY (l.map iS)):=qz h (by show(fR (l.map iS)).length=_;rw[lS,dA]) rfl
 have e:chunk (some 3) l.length (fR (l.map iS))=l.map λc=>.agg (t3 (iS c)):=by
  have:=DN (l:=l.map iS);rw[dA]at this;rw[this,List.map_map];rfl
 show view σ false (11+1) _=_;unfold view;simp only[d,aM,lS,dA,ow];rw[ae aa,e,C4 (g:=mD)]
 intro c o;have:=m c o
 by_cases a:c.2.1<0
 .have i:=this a
  obtain⟨x,y,w⟩:=c;dsimp only at a i;subst i;simp[t3,iS,a,mD,bJ]
 .obtain⟨x,y,w⟩:=c
  dsimp only at a;simp[t3,iS,a,mD,bJ]
def anN(h:l.any neg=false):l.map iS=l.map pL:=by
 refine eM λc a=>?_;have:=List.any_eq_false.1 h c a;simp[neg]at this;simp[iS,pL,show ¬c.2.1<0 by omega]
def As:IC:=(.seq (.seq (.cF RR)
 (.cond 103 (.seq (.cF RS)
 .ret) .skip))
 (.seq (.seq (.cF RT) (.ji 6))
 (.seq (.cF RU)
 .ret)))
def anO{Q:Ex->St->Prop}(e:aq σ b=some (pY (l.map pL))) (q:nth vars k = .sl b (3*n) 0 n) (r:n=l.length) (s:∀τ,(∀c,c ≠ b->aq τ c=aq σ c)->Q .eQ ⟨eu vars k (.aF true (l.map mD)),fl,τ⟩):W L (.ji k) ⟨vars,fl,σ⟩ Q:=by
 subst r;have i:∀x∈fR (l.map pL),DK x=true:=λx a=>by
  unfold fR at a;obtain⟨t,w,a⟩:=mW.1 a;obtain⟨c,_,rfl⟩:=cx.1 w;simp only[t3,pL,b5,List.not_mem_nil,or_false]at a;rcases a with rfl|rfl|rfl<;>rfl
 have y:reach σ vd (.sl b (3*l.length) 0 l.length) []=[b]:=by
  have:=DL (σ:=σ) (f:=11) (u:=3*l.length) (o:=0) (n:=l.length) e i (acc:=[]);rw[show vd=11+1 from rfl,this];rfl
 have j:aq (bG (λc=>!([b]:List Nat).contains c) 0 σ) b=some (pY (l.map pL)):=by
  rw[lL,e];simp
 have d:∀τ,aq τ b=some (pY (l.map pL))->upto τ b (3*l.length)=some (pY (l.map pL)):=λτ h=>qz h (by show(fR (l.map pL)).length=_;rw[lS,dA]) rfl
 have m:chunk (some 3) l.length (fR (l.map pL))=l.map mD:=by
  have:=DN (l:=l.map pL);rw[dA]at this;rw[this,List.map_map];rfl
 have z:view (bG (λc=>!([b]:List Nat).contains c) 0 σ) false vd (.sl b (3*l.length) 0 l.length)=some (MG l):=by
  have d:=d _ j;generalize bG (λc=>!([b]:List Nat).contains c) 0 σ=τ at *;show view τ false (11+1) _=_;unfold view;simp only[d,aM,lS,dA,ow];rw[ae aa,m,C4 (g:=mD)]
  intro c p
  rfl
 have A:eE σ (.sl b (3*l.length) 0 l.length)=true:=by
  simp only[eE,d σ e]
 refine⟨0,.eQ,_,?_,s (bG (λc=>([b]:List Nat).contains c) 0 σ) λc p=>?_⟩
 .simp only[exec,q,y,z,A];rfl
 .rw[lL]
  cases aq σ c with
  |none=>rfl
  |some B=>simp[p]
abbrev tI:List AV:=[.int 0,.int 0,.int 0,.int 0,.int 0,.ag,.ag,.ag,.ag,.ag]
variable{K:AV->List al->Prop}
def anP{s u w x:AV}(y:aq σ 0=some ⟨some 10,tI,.live⟩) (r:aq σ b=some (pY (l.map iS))) (g:b ≠ 0) (J:∀c∈l,c.2.1<0->c.2.2=[]) (hl:l.length<=128) (z:l ≠ []) (M:∀c∈l,c.2.2.length<=1024)
  (N:l.any neg=true->∀τ,K (.bM [.agg tI,.int 3]) τ)
  (O:l.any neg=false->(l.map λc=>c.2.2).Nodup/\XX D cls (dx l)/\∀(st:List Int) (τ:List al),st.length=l.length->(∀i:Nat,i<l.length->ix st (v8 (dx l) i)=i)->K (.bM [(tH D cls (dx l) st).av,.int 0]) τ) :
  WK L As [.aO,.aO,.aO,.ptr 0 10 0,D.vcs.av,.aO,.sl b (3*l.length) 0 l.length,.aO,.aO,.aO,.aO,s,u,w,iL cls,.aO,x,.aO,.aO,.aO] none σ (ie ts K):=by
 unfold As;have j:=anM r rfl rfl J;obtain⟨rc,P,d,rfl⟩:=dd (anL l aa)
 have m:view σ false vd (.func uW [])=some (.func uW []):=rfl;have o:∀(τ:List al) (B:al),aq τ 0=some ⟨some 10,tI,.live⟩->aq (ar τ 0 B) 0=some B:=λτ B h=>bU (by have:=cU h;omega)
 have p:=λ(ce:CE) (τ:List al) (h:aq τ 0=some ⟨some 10,tI,.live⟩) (Q R S T U V W X Y Z:AV)=>oI (ce:=ce) (σ:=ar τ 0 ⟨some 10,[Q,R,S,T,U,V,W,X,Y,Z],.live⟩) (n:=0) (o τ _ h)
 by_cases e:l.any neg=true
 .rw[e]at d
  have a:=λce=>p ce σ y;simp[-aj,j,m,d,y,a];exact N e _
 .have e:l.any neg=false:=by simpa using e
  rw[e]at d;obtain⟨hd,A,hK⟩:=O e;rw[anN e]at r;have C:=anI r rfl aa z (λc hc=>by have:=M c hc;omega) hd
  simp[-aj,j,m,d,C];have E:=qI l;refine anO (b:=b) (l:=dx l) (bU (cU r)) rfl E.length_eq.symm λτ F=>?_;have q : aq τ 0=some ⟨some 10,tI,.live⟩:=by
   rw[F 0 (Ne.symm g),aA g];exact y
  obtain⟨st,G,H,I⟩:=anw D cls (dx l) A;have a:=λce=>p ce τ q;simp[-aj,G,q, a];exact hK st _ (H.trans E.length_eq) λi hi=>I i (by rw[E.length_eq];exact hi)
def Fd.wd (S:Fd) (x:Int):List Int:=(ix S.W x).getD []
structure Au (cls:List Int) (S:Fd) (k x:Nat) (l:List iB):Prop where
 len:l.length=k
 cl:∀i:Nat,i<k->(ix l (i:Int)).1=i
 no:∀i:Nat,i<k->(ix l (i:Int)).2.1<0->(ix l (i:Int)).2.2=[]/\∀y:Nat,y<x->ix cls (y:Int)=i->ix S.F (y:Int)=false
 yes:∀i:Nat,i<k->0<=(ix l (i:Int)).2.1->((ix l (i:Int)).2.1<(x:Int)/\ix cls (ix l (i:Int)).2.1=i/\ix S.F (ix l (i:Int)).2.1=true/\(ix l (i:Int)).2.2=S.wd (ix l (i:Int)).2.1)/\∀y:Nat,y<x->ix cls (y:Int)=i->ix S.F (y:Int)=true->aI (ix l (i:Int)).2.2 (S.wd y)<=0
def E1 (k:Nat):List iB:=(List.range k).map λ(i:Nat)=>((i:Int),-1,[])
variable{S:Fd}
def UZ:Au cls S k 0 (E1 k):=by
 have e:∀i:Nat,i<k->ix (E1 k) (i:Int)=((i:Int),-1,[]):=λi a=>by
  unfold E1;rw[aB iJ];simp
 exact⟨by simp[E1],λi a=>by rw[e i a],λi a _=>by rw[e i a];exact⟨rfl,λy b=>aa⟩,λi a h=>by rw[e i a]at h;simp at h⟩
def Au.skip{x:Nat}(h:Au cls S k x l) (hs:ix S.F (x:Int)=false\/∃i:Nat,i<k/\ix cls (x:Int)=i/\0<=(ix l (i:Int)).2.1/\aI (ix l (i:Int)).2.2 (S.wd x)<=0):Au cls S k (x+1) l:=by
 refine⟨h.len,h.cl,λi hi hn=>?_,λi hi hp=>?_⟩
 .obtain⟨a,b⟩:=h.no i hi hn
  refine⟨a,λy hy hc=>?_⟩
  by_cases e:y=x
  .subst e
   rcases hs with hs|⟨j,hj,XZ,hp,_⟩
   .exact hs
   .have:j=i:=by omega
    subst this;omega
  .exact b y aa hc
 .obtain⟨⟨a,a2⟩,b⟩:=h.yes i hi hp
  refine⟨⟨aa,a2⟩,λy hy hc hf=>?_⟩
  by_cases e:y=x
  .subst e
   rcases hs with hs|⟨j,hj,XZ,_,hle⟩
   .rw[hs]at hf;simp at hf
   .have:j=i:=by omega
    subst this;exact hle
  .exact b y aa hc hf
def Au.put{x:Nat}(h:Au cls S k x l) (hi:i<k) (hc:ix cls (x:Int)=i) (hf:ix S.F (x:Int)=true) (hs:0<=(ix l (i:Int)).2.1->aI (S.wd x) (ix l (i:Int)).2.2<=0):Au cls S k (x+1) (l.set i ((i:Int),(x:Int),S.wd x)):=by
 have e:∀j:Nat,ix (l.set i ((i:Int),(x:Int),S.wd x)) (j:Int)=if j=i then((i:Int),(x:Int),S.wd x)else ix l (j:Int):=λj=>jm (by rw[h.len];exact hi) j
 refine⟨by simp[h.len],λj hj=>?_,λj hj hn=>?_,λj hj hp=>?_⟩
 .rw[e];split
  .rename_i q;rw[q]
  .exact h.cl j hj
 .rw[e]at hn ⊢
  by_cases q:j=i
  .rw[if_pos q]at hn;dsimp only at hn;omega
  .rw[ad q]at hn ⊢
   obtain⟨a,b⟩:=h.no j hj hn;refine⟨a,λy hy MH=>?_⟩
   by_cases e2:y=x
   .subst e2;omega
   .exact b y aa MH
 .rw[e]at hp ⊢
  by_cases q:j=i
  .rw[ae q]
   subst q;refine⟨⟨au,hc,hf,rfl⟩,λy hy MH U0=>?_⟩
   by_cases e2:y=x
   .subst e2;exact Int.le_of_eq (cC.refl _)
   .by_cases e3:0<=(ix l (j:Int)).2.1
    .exact cC.trans _ _ _ (hs e3) ((h.yes j hj e3).2 y aa MH U0)
    .have:=(h.no j hj aa).2 y aa MH
     rw[this]at U0;simp at U0
  .rw[ad q]at hp ⊢
   obtain⟨⟨a,a2⟩,b⟩:=h.yes j hj hp;refine⟨⟨aa,a2⟩,λy hy MH U0=>?_⟩
   by_cases e2:y=x
   .subst e2;omega
   .exact b y aa MH U0
def La:IC:=(.seq (.seq (.cF RP)
 (.block 2 (.loop RQ))) As)
def U7{l:List AV}(h:l[n]? = some x):pa l n=some x:=by
 induction l generalizing n with
 |nil=>simp at h
 |cons a l b=>
  cases n with
  |zero=>simpa[pa]using h
  |succ n=>simpa[pa]using b cq
def anQ{x7 x8:AV}(ss:cls.length=D.K.length) (Z:∀c∈cls,0<=c/\c<(k:Int)) (Q6:S.W.length=D.K.length) (hSf:S.F.length=D.K.length) (N:∀x:Int,0<=x->x<(D.K.length:Int)->(S.wd x).length<=1024) (EN:D.K.length<=512) (hk:k<=128)
  (h0:aq σ 0=some ⟨some 10,tI,.live⟩) (hb:aq σ b=some (pY ((E1 k).map iS))) (O:b ≠ 0)
  (hE:∀l τ x11 x12 x13 x16,Au cls S k D.K.length l->aq τ 0=some ⟨some 10,tI,.live⟩->aq τ b=some (pY (l.map iS))->WK L As [.aO,.aO,.aO,.ptr 0 10 0,D.vcs.av,.aO,.sl b (3*k) 0 k,.aO,.aO,.aO,.aO,x11,x12,x13,iL cls,.aO,x16,.aO,.aO,.aO] none τ (ie ts K)) :
  WK L La [.aO,.aO,.aO,.ptr 0 10 0,D.vcs.av,.aO,.sl b (3*k) 0 k,x7,x8,.aO,b8 (S.W.map λo=>o.getD []),.aO,.aO,.aO,iL cls,.aO,bL S.F,.aO,.aO,.aO] none σ (ie ts K):=by
 unfold La;simp[-aj,-List.map_map];refine aK (λq:Nat×List iB×List al=>[(11,.int q.1)]) (λq=>q.2.2) (λq=>q.1<=D.K.length/\Au cls S k q.1 q.2.1/\aq q.2.2 0=some ⟨some 10,tI,.live⟩/\aq q.2.2 b=some (pY (q.2.1.map iS))) (λq=>D.K.length-q.1) (0,E1 k,σ) aX ⟨ab,UZ,h0,hb⟩ ?_
 rintro⟨x,l,τ⟩ ⟨x0,d,m, a⟩;dsimp only at x0 d m a ⊢
 by_cases hx:x<D.K.length
 .have hc:=Z _ (aJ (l:=cls) (n:=(x:Int)) aa aa)
  obtain⟨i,A⟩:∃i:Nat,ix cls (x:Int)=i:=⟨(ix cls (x:Int)).toNat,aa⟩
  rw[A]at hc;have e:i<l.length:=by rw[d.len];omega
  have p:i<(l.map iS).length:=gC
  obtain⟨g0,g1,g2⟩:=anB p;rw[lI,<-aB e]at g0 g1 g2;have V:pa (fR (l.map iS)) (i*3+1)=some (.int (ix l (i:Int)).2.1):=U7 g1;have xw:=az (show(x:Int)<(S.W.length:Int)by omega)
  have xf:=az (show(x:Int)<(S.F.length:Int)by omega)
  have X:=az (show(x:Int)<(cls.length:Int)by omega)
  have I:=az (show x<S.W.length by omega)
  have u:=az (show x<S.F.length by omega)
  have w:=az (show x<cls.length by omega)
  have g:=az (show i<k by rw[<-d.len];exact e)
  have j:=az (show(i:Int)<(k:Int)by rw[<-d.len];omega)
  have y:(fR (l.map iS)).length=3*k:=by rw[lS,dA,d.len]
  have Y:ix (S.W.map λo=>o.getD []) (x:Int)=S.wd x:=iR aa aa
  have KP:=N x aa aa
  have lb:=cU a;have P:fR ((l.map iS).set i ((.int i),(.int x),iL (S.wd x)))=fR ((l.set i ((i:Int),(x:Int),S.wd x)).map iS):=by
   rw[o8]
   congr 2
  have E:ny (fR (l.map iS)) (i*3+1) (AV.int x).cells=fR ((l.map iS).set i ((l.map iS)[i].1,.int x,(l.map iS)[i].2.2)):=anD p;have G:ny (fR ((l.map iS).set i ((l.map iS)[i].1,.int x,(l.map iS)[i].2.2))) (i*3+2) (AV.aF false ((S.wd x).map .int)).cells=fR ((l.set i ((i:Int),(x:Int),S.wd x)).map iS):=by
   rw[show(AV.aF false ((S.wd x).map .int)).cells=[iL (S.wd x)]from rfl,anE (by simpa using p),<-P]
   congr 1
   rw[List.set_set,List.getElem_set_self];have:=d.cl i (by rw[<-d.len];exact e)
   rw[aB e]at this;simp only[lI];rw[show(iS l[i]).1 = .int i from by show AV.int l[i].1=_;rw[this]]
  have H:(fR ((l.map iS).set i ((l.map iS)[i].1,.int x,(l.map iS)[i].2.2))).length=3*k:=by rw[lS,ox,dA,d.len]
  generalize (l.map iS).set i ((l.map iS)[i].1,.int x,(l.map iS)[i].2.2)=M at E G H;have C:∀B:al,aq (ar τ b B) b=some B:=λB=>bU lb;have fin:∀B,aq (ar (ar τ b B) b (pY ((l.set i ((i:Int),(x:Int),S.wd x)).map iS))) 0=some ⟨some 10,tI,.live⟩/\aq (ar (ar τ b B) b (pY ((l.set i ((i:Int),(x:Int),S.wd x)).map iS))) b=some (pY ((l.set i ((i:Int),(x:Int),S.wd x)).map iS)):=λB=>⟨by rw[aA O,aA O];exact m, bU (by rw[aY];exact lb)⟩
  have r:i<k:=by rw[<-d.len];exact e
  by_cases J:ix S.F (x:Int)=true
  .by_cases hv:(ix l (i:Int)).2.1<0
   .have z :=az hv
    simp[-aj,-List.map_map,A,xw,xf,X,I,u,w,a, g,j,y,V,J,z, Y,C,E,G,H];exact⟨aa,aa,aa,aD (x+1,l.set i ((i:Int),(x:Int),S.wd x),ar (ar τ b ⟨some 3,fR M,.live⟩) b (pY ((l.set i ((i:Int),(x:Int),S.wd x)).map iS))) ab na ⟨au,d.put r A J (λh=>aa),(fin _).1,(fin _).2⟩ au⟩
   .have z :=bX hv
    have E2:pa (fR (l.map iS)) (i*3+2)=some (iL (ix l (i:Int)).2.2):=by
     rw[U7 g2];simp[iS,hv]
    have Q:PC pB [.aF false ((S.wd x).map .int),.aF false ((ix l (i:Int)).2.2.map .int)]=some (.int (aI (S.wd x) (ix l (i:Int)).2.2)):=by
     obtain⟨⟨q1,q2,q3,q4⟩,_⟩:=d.yes i (by rw[<-d.len];exact e) aa
     have R:=N (ix l (i:Int)).2.1 aa aa
     rw[<-q4]at R;exact Dl _ _ aa aa
    by_cases T:aI (S.wd x) (ix l (i:Int)).2.2<0
    .have s :=az T
     simp[-aj,-List.map_map,A,xw,xf,X,I,u,w,a, g,j,y,V,E2,J,z, Y,Q,s, C,E,G,H];exact⟨aa,aa,aa,aD (x+1,l.set i ((i:Int),(x:Int),S.wd x),ar (ar τ b ⟨some 3,fR M,.live⟩) b (pY ((l.set i ((i:Int),(x:Int),S.wd x)).map iS))) ab na ⟨au,d.put r A J (λh=>aa),(fin _).1,(fin _).2⟩ au⟩
    .have s :=bX T
     simp[-aj,-List.map_map,A,xw,xf,X,I,u,w,a, g,j,y,V,E2,J,z, Y,Q,s];refine⟨aa,aD (x+1,l,τ) ab rfl ⟨au,d.skip (.inr ⟨i,r,A,aa,?_⟩),m, a⟩ au⟩
     have:=cC.fL (S.wd x) (ix l (i:Int)).2.2;omega
  .have U : ix S.F (x:Int)=false:=by simpa using J
   simp[-aj,-List.map_map,A,xw,xf,X,I,u,w,a, g,j,y,V,U, Y];exact⟨aa,aD (x+1,l,τ) ab rfl ⟨au,d.skip (.inl U),m, a⟩ au⟩
 .have ex:x=D.K.length:=by omega
  have xw:=bX (show ¬(x:Int)<(S.W.length:Int)by omega)
  have I:=bX (show ¬x<S.W.length by omega)
  simp[-aj,-List.map_map,xw,I];rw[ex]at d;exact hE l τ _ _ _ _ d m a
def Lc:IC:=(.seq (.cF RK)
 (.seq (.cF RL)
 (.seq (.seq (.cF RM)
 (.block 0 (.loop RN)))
 La)))
def ug (k i:Nat):List T3:=(List.range k).map λ(j:Nat)=>if j<i then(.int j,.int (-1),.ag)else(.int 0,.int 0,.ag)
def Ld:(ug k i).length=k:=by simp[ug]
def anR(a:i<k):(ug k i).set i (.int i,.int (-1),.ag)=ug k (i+1):=by
 refine me (by simp[ug]) λj b d=>?_
 simp only[ug,qn,lI,List.getElem_range]
 by_cases e:i=j
 .subst e;rw[ae rfl,ae aa]
 .rw[ad e]
  by_cases h:j<i
  .rw[ae h,ae aa]
  .rw[ad h,ad aa]
def U8:ug k k=(E1 k).map iS:=by
 unfold ug E1;rw[List.map_map];refine eM λj a=>?_;rw[ae (bQ.1 a)]
 rfl
def U9:fR (ug k 0)=eK k [AV.int 0,.int 0,.ag]:=by
 have e:ug k 0=List.replicate k (.int 0,.int 0,.ag):=by
  unfold ug;simp only[Nat.not_lt_zero,eI];rw[List.map_const', ou]
 rw[e];have:∀n:Nat,fR (List.replicate n (.int 0,.int 0,.ag))=eK n [AV.int 0,.int 0,.ag]:=by
  intro n
  induction n with
  |zero=>rfl
  |succ n a=>
   rw[sC];show[AV.int 0,.int 0,.ag]++fR (List.replicate n (.int 0,.int 0,.ag))=_;rw[a];rfl
 exact this k
def anS(z:j9 D) (C:D.n.calls+D.n.ak+D.n.ah<=64)(p:cls.length=D.K.length) (r:∀c∈cls,0<=c/\c<(k:Int)) (E:k<=128) (F:1<=k)
  (A:aq σ 0=some ⟨some 10,tI,.live⟩)
  (G:∀S l τ b a d e g,Sr D 1025 S->Au cls S k D.K.length l->b ≠ 0->aq τ 0=some ⟨some 10,tI,.live⟩->aq τ b=some (pY (l.map iS))->WK L As [.aO,.aO,.aO,.ptr 0 10 0,D.vcs.av,.aO,.sl b (3*k) 0 k,.aO,.aO,.aO,.aO,a,d,e,iL cls,.aO,g,.aO,.aO,.aO] none τ (ie ts K)) :
  WK L Lc [.aO,.aO,.aO,.ptr 0 10 0,D.vcs.av,.int k,.aO,.aO,.aO,.aO,.aO,.aO,.aO,.aO,iL cls,.aO,.aO,.aO,.aO,.aO] none σ (ie ts K):=by
 unfold Lc;obtain⟨S,H,m⟩:=ank D z C;have R:=cU A;simp[-aj,-List.map_map,H];simp only[<-U9,lS,Ld];refine⟨aa,?_⟩
 refine aK (λq:Nat×List al=>[(7,.int q.1)]) (λq=>q.2) (λq=>q.1<=k/\aq q.2 0=some ⟨some 10,tI,.live⟩/\aq q.2 σ.length=some (pY (ug k q.1))) (λq=>k-q.1) (0,σ ++ [pY (ug k 0)]) aX ⟨ab,gz A,gU⟩ ?_
 rintro⟨i,τ⟩ ⟨I,j, o⟩;dsimp only at I j o ⊢
 by_cases s:i<k
 .have u:i<(ug k i).length:=by rw[Ld];exact s
  have J:(fR (ug k i)).length=3*k:=by rw[lS,Ld]
  have B:=anC u (t:=(.int i,.int (-1),.ag));rw[anR s]at B;simp[-aj,-List.map_map,s,o,J];exact⟨aa,aa,aD (i+1,ar τ σ.length (pY (ug k (i+1)))) ab (congrArg (λc=>ar τ σ.length (⟨some 3,c,.live⟩:al)) B) ⟨au,by dsimp only;rw[aA aa];exact j, bU (cU o)⟩ au⟩
 .have ei:i=k:=by omega
  subst ei;simp[-aj,-List.map_map];rw[U8]at o;refine anQ p r m.l (by rw[m.w.f];exact m.l) (λx M N=>?_) z.f.k E j o aa λl y a d e g O P Q=>G S l y _ a d e g m O aa P Q
  unfold Fd.wd;cases h:ix S.W x with
  |none=>simp
  |some w=>exact m.w.wl x w M (by rw[m.l];exact N) h
end Ab
