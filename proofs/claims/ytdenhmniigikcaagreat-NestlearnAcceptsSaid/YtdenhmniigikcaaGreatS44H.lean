/- The single-entry automaton of classes: what is written. The single-entry automaton of classes: the program. The vectors are given away. Condition: none. -/
import Derived.Test.YtdenhmniigikcaaGreatS44E
set_option linter.all false
set_option maxRecDepth 100000
set_option maxHeartbeats 4000000
namespace Ab
abbrev eP:=Int×Int×List Int
def mg (c:eP):AV:=.agg [.int c.1,.int c.2.1,iL c.2.2]
abbrev Mb (l:List eP):AV:=.aE false (l.map mg)
structure Xx (D:Vd) (cls:List Int) (l:List eP):Prop where
 vn:jQ D
 vo:tD D
 k:1<=l.length/\l.length<=128
 kc:l.length*D.n.calls.toNat<=128
 cl:cls.length=D.K.length
 cr:∀c∈cls,0<=c/\c<(l.length:Int)
 v:∀c∈l,0<=c.2.1/\c.2.1<(D.K.length:Int)
 c:∀c∈l,0<=c.1/\c.1<(l.length:Int)
 nd:(l.map λc=>c.1).Nodup
 s0:D.n.start<(D.plc.length:Int)
 s1:0<=D.iS/\D.iS<(D.n.bw.length:Int)
def xi (l:List eP) (i:Nat):Int:=(ix l (i:Int)).2.1
def vT (l:List eP) (i:Nat):Int:=(ix l (i:Int)).1
def Xy (st cls:List Int) (y:Int):Int:=ix st (ix cls y)
def u6 (D:Vd) (cls:List Int) (l:List eP) (st:List Int) (i g r:Nat):Int:=if D.n.calls.toNat=0 then 0 else Xy st cls (D.bk (xi l (g/D.n.calls.toNat)) ((g%D.n.calls.toNat:Nat):Int) (xi l i) (r:Int))
def FH (D:Vd) (cls:List Int) (l:List eP) (st:List Int) (i j:Nat):Int:=Xy st cls (D.im (xi l i) (j:Int))
structure mr (D:Vd) (cls:List Int) (l:List eP) (st:List Int) (a s J G R:Nat) (A:ak):Prop where
 h1:A.calls=D.n.calls
 h2:A.aj=D.n.aj
 h3:A.aq=D.n.aq
 h4:A.stack=((D.n.aB l.length:Nat):Int)
 h5:A.start=0
 h6:A.call=(D.n.dO l.length l.length).call
 h7:A.push=(D.n.dO l.length l.length).push
 la:A.accept.length=l.length
 li:A.inner.length=l.length
 qx:∀i,i<l.length->(A.cF .aR i).length=D.n.aj.toNat
 lp:A.pop.length=l.length
 mV:∀i,i<l.length->(A.bI i).length=D.n.aB l.length
 qz:∀i g,i<l.length->g<D.n.aB l.length->(A.cK i g).length=D.n.aq.toNat
 ac:∀i:Nat,i<l.length->ix A.accept (i:Int)=if i<a then D.ac D.iS (xi l i)else false
 aR:∀i j:Nat,i<l.length->j<D.n.aj.toNat->ix (A.cF .aR i) (j:Int)=if i<s\/i=s/\j<J then FH D cls l st i j else 0
 pop:∀i g r:Nat,i<l.length->g<D.n.aB l.length->r<D.n.aq.toNat->ix (A.cK i g) (r:Int)=if i<s\/i=s/\(g<G\/g=G/\r<R)then u6 D cls l st i g r else 0
theorem UZ{D:Vd}{cls st:List Int}{l:List eP}:mr D cls l st 0 0 0 0 0 (D.n.dO l.length l.length):=by
 refine⟨rfl,rfl,rfl,rfl,rfl,rfl,rfl,by simp[ak.dO],by simp[ak.dO],λi hi=>by rw[KI hi];rfl,mU,λi hi=>by rw[(kO hi).2.2.2];simp,λi g hi hg=>by rw[u4 hi hg];simp,λi hi=>?_,λi j hi hj=>?_,λi g r hi hg hr=>?_⟩
 ·rw[ab (by omega)];exact lq hi
 ·rw[ab (by omega),(kO hi).2.2.1];exact lq hj
 ·rw[ab (by omega),u4 hi hg];exact lq hr
theorem mr.bX{D:Vd}{cls st:List Int}{l:List eP}{a s J G R:Nat}{A:ak}(h:mr D cls l st a s J G R A) (hk:l.length ≠ 0) (p:Tn->Nat):A.bX p=[.int D.n.calls,.int D.n.aj,.int D.n.aq,.int ((D.n.aB l.length:Nat):Int),.int 0,.sl (p .ac) l.length 0 l.length,.sl (p (.ls .cl)) l.length 0 l.length,.sl (p (.ls .ps)) l.length 0 l.length,.sl (p (.ls .aR)) l.length 0 l.length,.sl (p .po) l.length 0 l.length]:=by
 have e1:A.call.length=l.length:=by rw[h.h6];exact mT .cl
 have e2:A.push.length=l.length:=by rw[h.h7];exact mT .ps
 unfold ak.bX cT;rw[h.h1,h.h2,h.h3,h.h4,h.h5,h.la,e1,e2,h.li,h.lp,ab hk,ab hk,ab hk,ab hk]
theorem mr.mQ{D:Vd}{cls st:List Int}{l:List eP}{s J G R:Nat}{A:ak}(h:mr D cls l st s s J G R A) (hs:s<l.length):mr D cls l st (s+1) s J G R {A with accept:=A.accept.set s (D.ac D.iS (xi l s))}:=by
 refine⟨h.h1,h.h2,h.h3,h.h4,h.h5,h.h6,h.h7,by simp[h.la],h.li,h.qx,h.lp,h.mV,h.qz,λi hi=>?_,h.aR,h.pop⟩
 show ix (A.accept.set s _) (i:Int)=_;rw[jd (by rw[h.la];exact hs)]
 by_cases e:i=s
 ·rw[ae e,ae (by omega),e]
 ·rw[ab e,h.ac i hi]
  by_cases e2:i<s
  ·rw[ae e2,ae (by omega)]
  ·rw[ab e2,ab (by omega)]
theorem mr.mR{D:Vd}{cls st:List Int}{l:List eP}{a s J G R:Nat}{A:ak}(h:mr D cls l st a s J G R A) (hs:s<l.length) (hJ:J<D.n.aj.toNat):mr D cls l st a s (J+1) G R {A with inner:=A.inner.set s ((A.cF .aR s).set J (FH D cls l st s J))}:=by
 have dY:∀s' : Nat,ak.cF {A with inner:=A.inner.set s ((A.cF .aR s).set J (FH D cls l st s J))} .aR s' = if s' = s then(A.cF .aR s).set J (FH D cls l st s J)else A.cF .aR s' :=λs' =>jd (by rw[h.li];exact hs) s'
 refine⟨h.h1,h.h2,h.h3,h.h4,h.h5,h.h6,h.h7,h.la,by simp[h.li],λi hi=>?_,h.lp,h.mV,h.qz,h.ac,λi j hi hj=>?_,h.pop⟩
 ·rw[dY]
  split
  ·rw[nQ];exact h.qx s hs
  ·exact h.qx i hi
 ·rw[dY]
  by_cases e:i=s
  ·rw[ae e,jd (by rw[h.qx s hs];exact hJ)]
   by_cases e2:j=J
   ·rw[ae e2,ae (.inr ⟨e,by omega⟩),e,e2]
   ·subst e
    rw[ab e2,h.aR i j hi hj]
    by_cases e3:j<J
    ·rw[ae (.inr ⟨rfl,e3⟩),ae (.inr ⟨rfl,by omega⟩)]
    ·rw[ab (by omega),ab (by omega)]
  ·rw[ab e,h.aR i j hi hj]
   by_cases e3:i<s
   ·rw[ae (.inl e3),ae (.inl e3)]
   ·rw[ab (by omega),ab (by omega)]
theorem mr.mS{D:Vd}{cls st:List Int}{l:List eP}{a s J G R:Nat}{A:ak}(h:mr D cls l st a s J G R A) (hs:s<l.length) (hG:G<D.n.aB l.length) (hR:R<D.n.aq.toNat):mr D cls l st a s J G (R+1) {A with pop:=A.pop.set s ((A.bI s).set G ((A.cK s G).set R (u6 D cls l st s G R)))}:=by
 have dY:∀s' : Nat,ak.bI {A with pop:=A.pop.set s ((A.bI s).set G ((A.cK s G).set R (u6 D cls l st s G R)))} s' = if s' = s then(A.bI s).set G ((A.cK s G).set R (u6 D cls l st s G R))else A.bI s' :=λs' =>jd (by rw[h.lp];exact hs) s'
 have jy:∀s' g' : Nat,ak.cK {A with pop:=A.pop.set s ((A.bI s).set G ((A.cK s G).set R (u6 D cls l st s G R)))} s' g' = if s' = s/\g' = G then(A.cK s G).set R (u6 D cls l st s G R)else A.cK s' g' :=λs' g' =>by
  generalize (A.cK s G).set R (u6 D cls l st s G R)=w at *;unfold ak.cK;rw[dY]
  by_cases e:s' = s
  ·rw[ae e,jd (by rw[h.mV s hs];exact hG)]
   by_cases e2:g' = G
   ·rw[ae e2,ae ⟨e,e2⟩]
   ·rw[ab e2,ab λa=>e2 a.2,e]
  ·rw[ab e,ab λa=>e a.1]
 refine⟨h.h1,h.h2,h.h3,h.h4,h.h5,h.h6,h.h7,h.la,h.li,h.qx,by simp[h.lp],λi hi=>?_,λi g hi hg=>?_,h.ac,h.aR,λi g r hi hg hr=>?_⟩
 ·rw[dY]
  split
  ·rw[nQ];exact h.mV s hs
  ·exact h.mV i hi
 ·rw[jy]
  split
  ·rw[nQ];exact h.qz s G hs hG
  ·exact h.qz i g hi hg
 ·rw[jy]
  by_cases e:i=s/\g=G
  ·rw[ae e,jd (by rw[h.qz s G hs hG];exact hR)]
   by_cases e2:r=R
   ·rw[ae e2,ae (.inr ⟨e.1,.inr ⟨e.2,by omega⟩⟩),e.1,e.2,e2]
   ·have hp:=h.pop s G r hs hG hr
    rw[ab e2,hp,e.1,e.2]
    by_cases e3:r<R
    ·rw[ae (.inr ⟨rfl,.inr ⟨rfl,e3⟩⟩),ae (.inr ⟨rfl,.inr ⟨rfl,by omega⟩⟩)]
    ·rw[ab (by omega),ab (by omega)]
  ·rw[ab e,h.pop i g r hi hg hr]
   by_cases e3:i<s\/i=s/\(g<G\/g=G/\r<R)
   ·rw[ae e3,ae (by omega)]
   ·rw[ab e3,ab (by omega)]
theorem mr.Aq{D:Vd}{cls st:List Int}{l:List eP}{a s J G:Nat}{A:ak}(h:mr D cls l st a s J G D.n.aq.toNat A):mr D cls l st a s J (G+1) 0 A:=by
 refine⟨h.h1,h.h2,h.h3,h.h4,h.h5,h.h6,h.h7,h.la,h.li,h.qx,h.lp,h.mV,h.qz,h.ac,h.aR,λi g r hi hg hr=>?_⟩;rw[h.pop i g r hi hg hr]
 by_cases e3:i<s\/i=s/\(g<G\/g=G/\r<D.n.aq.toNat)
 ·rw[ae e3,ae (by omega)]
 ·rw[ab e3,ab (by omega)]
theorem mr.Ar{D:Vd}{cls st:List Int}{l:List eP}{s:Nat}{A:ak}(h:mr D cls l st (s+1) s D.n.aj.toNat (l.length*D.n.calls.toNat) 0 A):mr D cls l st (s+1) (s+1) 0 0 0 A:=by
 refine⟨h.h1,h.h2,h.h3,h.h4,h.h5,h.h6,h.h7,h.la,h.li,h.qx,h.lp,h.mV,h.qz,h.ac,λi j hi hj=>?_,λi g r hi hg hr=>?_⟩
 ·rw[h.aR i j hi hj]
  by_cases e3:i<s\/i=s/\j<D.n.aj.toNat
  ·rw[ae e3,ae (by omega)]
  ·rw[ab e3,ab (by omega)]
 ·rw[h.pop i g r hi hg hr]
  by_cases hc:D.n.calls.toNat=0
  ·have:u6 D cls l st i g r=0:=ae hc
   rw[this];simp
  ·have bV:D.n.aB l.length=max 1 (l.length*D.n.calls.toNat):=rfl
   have:1<=l.length*D.n.calls.toNat:=Nat.mul_pos (by omega) (by omega)
   by_cases e3:i<s\/i=s/\(g<l.length*D.n.calls.toNat\/g=l.length*D.n.calls.toNat/\r<0)
   ·rw[ae e3,ae (by omega)]
   ·rw[ab e3,ab (by omega)]
def tG (D:Vd) (cls:List Int) (l:List eP) (st:List Int):ak:=⟨D.n.calls,D.n.aj,D.n.aq,((D.n.aB l.length:Nat):Int),0,(List.range l.length).map λi=>D.ac D.iS (xi l i),(D.n.dO l.length l.length).call,(D.n.dO l.length l.length).push,(List.range l.length).map λi=>(List.range D.n.aj.toNat).map λj=>FH D cls l st i j,(List.range l.length).map λi=>(List.range (D.n.aB l.length)).map λg=>(List.range D.n.aq.toNat).map λr=>u6 D cls l st i g r⟩
theorem oh{α:Type} [Inhabited α]{l:List α}{k:Nat}{f:Nat->α}(hl:l.length=k) (h:∀i:Nat,i<k->ix l (i:Int)=f i):l=(List.range k).map f:=by
 refine mG (by simp[hl]) λi h1 h2=>?_
 have:=h i (by omega)
 rw[aT h1]at this;simp[this]
theorem mr.fin{D:Vd}{cls st:List Int}{l:List eP}{A:ak}(h:mr D cls l st l.length l.length 0 0 0 A):A=tG D cls l st:=by
 obtain⟨c,i,r,sk,s0,ac,cl,ps,aR,po⟩:=A;have e1:c=D.n.calls:=h.h1;have e2:i=D.n.aj:=h.h2;have e3:r=D.n.aq:=h.h3;have e4:sk=((D.n.aB l.length:Nat):Int):=h.h4;have e5:s0=0:=h.h5;have e6:cl=(D.n.dO l.length l.length).call:=h.h6;have e7:ps=(D.n.dO l.length l.length).push:=h.h7;have e8:ac=(List.range l.length).map λi=>D.ac D.iS (xi l i):=oh h.la λi hi=>by
  have:=h.ac i hi;rw[ae hi]at this;exact this
 have e9:aR=(List.range l.length).map λi=>(List.range D.n.aj.toNat).map λj=>FH D cls l st i j:=oh h.li λi hi=>oh (h.qx i hi) λj hj=>by
  have:=h.aR i j hi hj;rw[ae (.inl hi)]at this;exact this
 have e10:po=(List.range l.length).map λi=>(List.range (D.n.aB l.length)).map λg=>(List.range D.n.aq.toNat).map λr=>u6 D cls l st i g r:=oh h.lp λi hi=>oh (h.mV i hi) λg hg=>oh (h.qz i g hi hg) λr hr=>by
  have:=h.pop i g r hi hg hr;rw[ae (.inl hi)]at this;exact this
 rw[e1,e2,e3,e4,e5,e6,e7,e8,e9,e10];rfl
structure qU (D:Vd) (l:List eP) (st:List Int) (b:Nat) (A:ak) (σ:List ag):Prop where
 m:AS A (λt=>fp (D.n.aB l.length) t+2) σ
 b:al σ b=some ⟨some 10,[.int D.n.calls,.int D.n.aj,.int D.n.aq,.int ((D.n.aB l.length:Nat):Int),.int 0,.sl 3 l.length 0 l.length,.sl (6+D.n.aB l.length+2) l.length 0 l.length,.sl (7+D.n.aB l.length+2) l.length 0 l.length,.sl (9+D.n.aB l.length+2) l.length 0 l.length,.sl (10+D.n.aB l.length+2) l.length 0 l.length],.live⟩
 s:al σ 1=some (Zb st)
 z:al σ 0=some ⟨some 10,[.int 0,.int 0,.int 0,.int 0,.int 0,.ah,.ah,.ah,.ah,.ah],.live⟩
theorem qU.acc{D:Vd}{l:List eP}{st:List Int}{b:Nat}{A:ak}{σ:List ag}(h:qU D l st b A σ) (hb:3<b){w:List Bool}:qU D l st b {A with accept:=w} (az σ 3 ⟨none,w.map .bool,.live⟩):=
 ⟨h.m.mQ,by rw[aP (by omega)];exact h.b,by rw[aP (by omega)];exact h.s,by rw[aP (by omega)];exact h.z⟩
theorem qU.aR{D:Vd}{l:List eP}{st:List Int}{b:Nat}{A:ak}{σ:List ag}(h:qU D l st b A σ){s:Nat}(hs:s<A.inner.length) (hb:fp (D.n.aB l.length) (.rw .aR s)+2<b){w:List Int}(hl:w.length=(A.cF .aR s).length):qU D l st b {A with inner:=A.inner.set s w} (az σ (fp (D.n.aB l.length) (.rw .aR s)+2) (Zb w)):=
 ⟨h.m.mR hs hl,by rw[aP (by omega)];exact h.b,by rw[aP (by omega)];exact h.s,by rw[aP (by omega)];exact h.z⟩
theorem qU.pop{D:Vd}{l:List eP}{st:List Int}{b:Nat}{A:ak}{σ:List ag}(h:qU D l st b A σ){s g:Nat}(hs:s<A.pop.length) (hg:g<(A.bI s).length) (hb:fp (D.n.aB l.length) (.pg s g)+2<b){w:List Int}(hl:w.length=(A.cK s g).length):qU D l st b {A with pop:=A.pop.set s ((A.bI s).set g w)} (az σ (fp (D.n.aB l.length) (.pg s g)+2) (Zb w)):=
 ⟨h.m.mS hs hg hl,by rw[aP (by omega)];exact h.b,by rw[aP (by omega)];exact h.s,by rw[aP (by omega)];exact h.z⟩
theorem qU.ls{D:Vd}{cls st:List Int}{l:List eP}{b a s J G R:Nat}{A:ak}{σ:List ag}(h:qU D l st b A σ) (hT:mr D cls l st a s J G R A) (hk:l.length ≠ 0):al σ (9+D.n.aB l.length+2)=some ⟨none,(List.range l.length).map λi=>iD (fp (D.n.aB l.length) (.rw .aR i)+2) D.n.aj.toNat,.live⟩:=by
 have:=h.m.has (.ls .aR) _ (ab λe=>by have:=hT.li;rw[show A.inner=[]from e]at this;exact hk this.symm)
 rw[show al σ (9+D.n.aB l.length+2)=_ from this];rw[show(A.tb .aR).length=l.length from hT.li]
 congr 2
 exact gk λi hi=>by rw[hT.qx i (cA.1 hi)]
theorem qU.po{D:Vd}{cls st:List Int}{l:List eP}{b a s J G R:Nat}{A:ak}{σ:List ag}(h:qU D l st b A σ) (hT:mr D cls l st a s J G R A) (hk:l.length ≠ 0):al σ (10+D.n.aB l.length+2)=some ⟨none,(List.range l.length).map λi=>iD (fp (D.n.aB l.length) (.pr i)+2) (D.n.aB l.length),.live⟩:=by
 have:=h.m.has .po _ (ab λe=>by have:=hT.lp;rw[e]at this;exact hk this.symm)
 rw[show al σ (10+D.n.aB l.length+2)=_ from this];rw[hT.lp]
 congr 2
 exact gk λi hi=>by rw[hT.mV i (cA.1 hi)]
theorem qU.pr{D:Vd}{cls st:List Int}{l:List eP}{b a s J G R:Nat}{A:ak}{σ:List ag}(h:qU D l st b A σ) (hT:mr D cls l st a s J G R A){i:Nat}(hi:i<l.length):al σ (fp (D.n.aB l.length) (.pr i)+2)=some ⟨none,(List.range (D.n.aB l.length)).map λg=>iD (fp (D.n.aB l.length) (.pg i g)+2) D.n.aq.toNat,.live⟩:=by
 have:=h.m.has (.pr i) _ (ae (by rw[hT.lp];exact hi))
 rw[this,hT.mV i hi]
 congr 2
 exact gk λg hg=>by rw[hT.qz i g hi (cA.1 hg)]
theorem anw (D:Vd) (cls:List Int) (l:List eP) (h:Xx D cls l) :
  LX L EA [D.vcs.av,iL cls,Mb l] [] (λr τ=>∃st:List Int,cx τ false r=some (tG D cls l st).av/\st.length=l.length/\∀i:Nat,i<l.length->ix st (vT l i)=i):=by
 refine aiB rfl ?_;obtain⟨L6,oq⟩:=h.k;simp[-ao,-List.map_replicate];refine⟨by omega,?_⟩
 refine bu (λq:Nat×List Int=>[(3,.int q.1)]) (λq=>[⟨some 10,[.int 0,.int 0,.int 0,.int 0,.int 0,.ah,.ah,.ah,.ah,.ah],.live⟩,Zb q.2]) (λq=>q.1<=l.length/\q.2.length=l.length/\∀i:Nat,i<q.1->ix q.2 (vT l i)=i) (λq=>l.length-q.1) (0,List.replicate l.length 0) (by simp[bY]) ⟨by simp,by simp,λi hi=>by dsimp only at hi;omega⟩ ?_
 rintro⟨i,st⟩ ⟨i0,hl,hs⟩;dsimp only at i0 hl hs ⊢
 by_cases hi:i<l.length
 ·have hc:=h.c _ (aU (l:=l) (n:=(i:Int)) (by omega) (by omega))
  simp[-ao,-List.map_replicate,hi,mg];refine⟨hc,hl,by omega,by omega,aX (i+1,st.set (ix l (i:Int)).1.toNat i) (by simp) (by simp[List.map_set]) ⟨by dsimp only;omega,by simp[hl],λj hj=>?_⟩ (by dsimp only;omega)⟩
  dsimp only at hj ⊢;have Xz:=h.c _ (aU (l:=l) (n:=(j:Int)) (by omega) (by omega))
  rw[zR (show 0<=vT l j from Xz.1) (by rw[hl];exact Xz.2)]
  by_cases e:j=i
  ·subst e;rw[ae (by unfold vT;omega)]
  ·rw[ab,hs j (by omega)]
   intro e2;have Mc:j<l.length:=by omega
   have h1:(l.map λc=>c.1)[j]'(by simpa using Mc)=(l.map λc=>c.1)[i]'(by simpa using hi):=by
    rw[oS,oS,<-aT Mc,<-aT hi];unfold vT at e2;omega
   exact e ((List.getElem_inj h.nd).1 h1)
 ·have ei:i=l.length:=by omega
  subst ei;obtain⟨rv,τ,hF,U0,hA⟩:=dS (UW D.n h.vo.ok l.length oq h.kc);have U7:=UZ (D:=D) (cls:=cls) (st:=st) (l:=l);rw[U7.bX (by omega)]at U0
  subst U0;have U8 : L wU [.agg [.int D.n.calls,.int D.n.aj,.int D.n.aq,.int D.n.stack,.int D.n.start,.aE false (D.n.accept.map .bool),.aE false (D.n.call.map iL),.aE false (D.n.push.map iL),.aE false (D.n.inner.map iL),.aE false (D.n.pop.map cO)],.int l.length] []=some (.agg [.int D.n.calls,.int D.n.aj,.int D.n.aq,.int ((D.n.aB l.length:Nat):Int),.int 0,.sl 1 l.length 0 l.length,.sl (6+D.n.aB l.length) l.length 0 l.length,.sl (7+D.n.aB l.length) l.length 0 l.length,.sl (9+D.n.aB l.length) l.length 0 l.length,.sl (10+D.n.aB l.length) l.length 0 l.length],τ):=hF;have KF:=hA.shift [⟨some 10,[.int 0,.int 0,.int 0,.int 0,.int 0,.ah,.ah,.ah,.ah,.ah],.live⟩,Zb st];obtain⟨fj,om⟩:∃s,([⟨some 10,[.int 0,.int 0,.int 0,.int 0,.int 0,.ah,.ah,.ah,.ah,.ah],.live⟩,Zb st]:List ag)++τ.map (gR 2)=s:=⟨_,rfl⟩;have e1:∀Y:List ag,(⟨some 10,[.int 0,.int 0,.int 0,.int 0,.int 0,.ah,.ah,.ah,.ah,.ah],.live⟩:ag)::⟨none,st.map .int,.live⟩::(τ.map (gR 2)++Y)=fj++Y:=λY=>by rw[<-om];rfl
  have e2:τ.length+1+1=fj.length:=by rw[<-om];simp
  have FI:AS (D.n.dO l.length l.length) (λt=>fp (D.n.aB l.length) t+2) fj:=by rw[<-om];exact KF
  have eb:∀Y:ag,al (fj ++ [Y]) fj.length=some Y:=λY=>iA;have es:∀Y Z:ag,az (fj ++ [Y]) fj.length Z=fj ++ [Z]:=λY Z=>Ap;have iy:al fj 1=some (Zb st):=by rw[<-om];rfl
  have anx:al fj 0=some ⟨some 10,[.int 0,.int 0,.int 0,.int 0,.int 0,.ah,.ah,.ah,.ah,.ah],.live⟩:=by rw[<-om];rfl
  simp[-ao,-List.map_replicate,U8, jA,kP,e1,e2,eb,es];have e3:∀Y Z:ag,(⟨some 10,[.int 0,.int 0,.int 0,.int 0,.int 0,.ah,.ah,.ah,.ah,.ah],.live⟩:ag)::⟨none,st.map .int,.live⟩::az (τ.map (gR 2) ++ [Y]) τ.length Z=fj ++ [Z]:=λY Z=>by
   rw[show az (τ.map (gR 2) ++ [Y]) τ.length Z=τ.map (gR 2) ++ [Z]from by have:=Ap (Q:=τ.map (gR 2)) (B:=Y) (C:=Z);rwa [dR]at this,e1]
  simp only[e3];clear es eb e1 e2 e3 U8 hF;have pac:=FI.lt (t:=.ac) rfl;have prw:∀s,s<l.length->fp (D.n.aB l.length) (.rw .aR s)+2<fj.length:=λs hs=>FI.lt (t:=.rw .aR s) (ae (by rw[mT];exact hs))
  have ppg:∀s g,s<l.length->g<D.n.aB l.length->fp (D.n.aB l.length) (.pg s g)+2<fj.length:=λs g hs hg=>FI.lt (t:=.pg s g) (ae ⟨by rw[mU];exact hs,by rw[(kO hs).2.2.2];simpa using hg⟩)
  refine bu (λq:Nat×ak×List ag=>[(9,.int q.1)]) (λq=>q.2.2) (λq=>q.1<=l.length/\mr D cls l st q.1 q.1 0 0 0 q.2.1/\qU D l st fj.length q.2.1 q.2.2) (λq=>l.length-q.1) (0,D.n.dO l.length l.length,fj ++ [⟨some 10,[.int D.n.calls,.int D.n.aj,.int D.n.aq,.int ((D.n.aB l.length:Nat):Int),.int 0,.sl 3 l.length 0 l.length,.sl (6+D.n.aB l.length+2) l.length 0 l.length,.sl (7+D.n.aB l.length+2) l.length 0 l.length,.sl (9+D.n.aB l.length+2) l.length 0 l.length,.sl (10+D.n.aB l.length+2) l.length 0 l.length],.live⟩]) (by simp[bY]) ⟨by simp,U7,FI.other λt B hB=>gq (FI.lt hB),iA,gn iy,gn anx⟩ ?_
  rintro⟨s,A,σ⟩ ⟨s0,hT,hM⟩;dsimp only at s0 hT hM ⊢;have xR:=hM.b;have ni:=hM.z
  by_cases gB:s<l.length
  ·have hv:=h.v _ (aU (l:=l) (n:=(s:Int)) (by omega) (by omega))
   have xj:=hM.m.has .ac _ rfl;have hK:=h.vo.st _ (aU (l:=D.K) hv.1 hv.2);have oI:=h.s0;have sb:=h.s1;unfold Vd.iS at sb;have hn:=h.vo.ok;have LZ:=hK.1 _ (aU (l:=ix D.K (ix l (s:Int)).2.1) sb.1 (by rw[hK.2];exact sb.2))
   rw[show fp (D.n.aB l.length) .ac+2=3 from rfl]at xj pac;have U9:=hT.la;simp[-ao,-List.map_replicate,gB,mg,xR,xj,hv,hK,oI,sb,LZ,hn.start,U9];have eZ:=h.vn.inl (ix l (s:Int)).2.1.toNat (by omega)
   rw[show(((ix l (s:Int)).2.1.toNat:Nat):Int)=(ix l (s:Int)).2.1 by omega]at eZ
   have AY:=h.vn.f.i;have hfb:=h.vn.f.b;have wE:=h.vn.n;have lL:=h.vn.c;have GH:=h.vn.r;refine⟨by omega,?_⟩
   have hT1:=hT.mQ gB;have hM1:=hM.acc pac (w:=A.accept.set s (D.ac D.iS (xi l s)));rw[List.map_set]at hM1;have Va:∀y,0<=y->y<(D.K.length:Int)->0<=ix cls y/\ix cls y<(st.length:Int):=λy y0 y1=>by
    have:=h.cr _ (aU (l:=cls) y0 (by rw[h.cl];exact y1))
    rw[hl];exact this
   refine bu (λq:Nat×ak×List ag=>[(15,.int q.1)]) (λq=>q.2.2) (λq=>q.1<=D.n.aj.toNat/\mr D cls l st (s+1) s q.1 0 0 q.2.1/\qU D l st fj.length q.2.1 q.2.2) (λq=>D.n.aj.toNat-q.1) (0,_,_) (by simp[bY];rfl) ⟨by simp,hT1,hM1⟩ ?_
   rintro⟨j,A2,pR⟩ ⟨j0,Bj,As⟩;dsimp only at j0 Bj As ⊢;have u5:=As.b;have e2:ix (List.range l.length) (s:Int)=s:=by rw[aT (by simpa using gB)];simp
   have e3:ix (List.range l.length) (0+(s:Int)*1)=s:=by rw[<-e2];congr 1;omega
   by_cases hj:j<D.n.aj.toNat
   ·have yR:=bH (show(j:Int)<(((ix D.IN (ix l (s:Int)).2.1).length:Nat):Int)by omega)
    have hy:=eZ.2 _ (aU (l:=ix D.IN (ix l (s:Int)).2.1) (n:=(j:Int)) (by omega) (by omega))
    have Vb:=Va _ hy.1 hy.2;have xO:=As.ls Bj (by omega)
    have rO:=As.m.has (.rw .aR s) _ (ae (by rw[show(A2.tb .aR).length=l.length from Bj.li];exact gB))
    have iC:=Bj.qx s gB;have LN:=As.s;have gG:=h.cl;simp[-ao,-List.map_replicate,yR,u5,xO,gB,e2,e3,rO,kn,LN];refine⟨by rw[gG];exact hy,⟨Vb.1,by rw[<-hl];exact Vb.2⟩,hl,by omega,by omega,iC,by omega,by omega,aX (j+1,{A2 with inner:=A2.inner.set s ((A2.cF .aR s).set j (FH D cls l st s j))},az pR (fp (D.n.aB l.length) (.rw .aR s)+2) (Zb ((A2.cF .aR s).set j (FH D cls l st s j)))) (by simp) ?_ ⟨by dsimp only;omega,Bj.mR gB hj,As.aR (by rw[Bj.li];exact gB) (prw s gB) (by simp)⟩ (by dsimp only;omega)⟩
    dsimp only;rw[Zb,List.map_set];rfl
   ·have yR:=gl (show ¬(j:Int)<(((ix D.IN (ix l (s:Int)).2.1).length:Nat):Int)by omega)
    have ej:j=D.n.aj.toNat:=by omega
    rw[ej]at Bj;simp[-ao,-List.map_replicate,yR];refine bu (λq:Nat×ak×List ag=>[(20,.int q.1)]) (λq=>q.2.2) (λq=>q.1<=l.length/\mr D cls l st (s+1) s D.n.aj.toNat (q.1*D.n.calls.toNat) 0 q.2.1/\qU D l st fj.length q.2.1 q.2.2) (λq=>l.length-q.1) (0,A2,pR) (by simp[bY]) ⟨by simp,by simpa using Bj,As⟩ ?_
    rintro⟨p,A3,xU⟩ ⟨p0,XA,hM3⟩;dsimp only at p0 XA hM3 ⊢
    by_cases hp:p<l.length
    ·have hvp:=h.v _ (aU (l:=l) (n:=(p:Int)) (by omega) (by omega))
     simp[-ao,-List.map_replicate,hp,mg];refine bu (λq:Nat×ak×List ag=>[(23,.int q.1)]) (λq=>q.2.2) (λq=>q.1<=D.n.calls.toNat/\mr D cls l st (s+1) s D.n.aj.toNat (p*D.n.calls.toNat+q.1) 0 q.2.1/\qU D l st fj.length q.2.1 q.2.2) (λq=>D.n.calls.toNat-q.1) (0,A3,xU) (by simp[bY]) ⟨by simp,XA,hM3⟩ ?_
     rintro⟨c,A4,L8⟩ ⟨c0,XB,hM4⟩;dsimp only at c0 XB hM4 ⊢
     by_cases hc:c<D.n.calls.toNat
     ·have G4:=bH (show(c:Int)<D.n.calls by omega)
      have ny:=h.vn.rQ (ix l (p:Int)).2.1.toNat c (ix l (s:Int)).2.1.toNat (by omega) hc (by omega)
      unfold Vd.bX Vd.row at ny;rw[show(((ix l (p:Int)).2.1.toNat:Nat):Int)=(ix l (p:Int)).2.1 by omega,show(((ix l (s:Int)).2.1.toNat:Nat):Int)=(ix l (s:Int)).2.1 by omega]at ny
      have AZ:=h.vn.rl (ix l (p:Int)).2.1.toNat (by omega)
      unfold Vd.row at AZ;have A0:=h.vn.f.c (ix l (p:Int)).2.1.toNat c (by omega) hc
      unfold Vd.bX Vd.row at A0;rw[show(((ix l (p:Int)).2.1.toNat:Nat):Int)=(ix l (p:Int)).2.1 by omega]at AZ A0
      have x1:=bH (show(ix l (p:Int)).2.1<(D.BL.length:Int)by omega)
      have x2:=bH (show(c:Int)<((ix D.BL (ix l (p:Int)).2.1).length:Int)by omega)
      have x3:=bH (show(ix l (s:Int)).2.1<((ix (ix D.BL (ix l (p:Int)).2.1) (c:Int)).length:Int)by omega)
      have y1:=bH hvp.1;have y2:=bH hv.1;simp[-ao,-List.map_replicate,G4,x1,x2,x3,y1,y2];refine bu (λq:Nat×ak×List ag=>[(27,.int q.1)]) (λq=>q.2.2) (λq=>q.1<=D.n.aq.toNat/\mr D cls l st (s+1) s D.n.aj.toNat (p*D.n.calls.toNat+c) q.1 q.2.1/\qU D l st fj.length q.2.1 q.2.2) (λq=>D.n.aq.toNat-q.1) (0,A4,L8) (by simp[bY]) ⟨by simp,XB,hM4⟩ ?_
      rintro⟨r,A5,σ5⟩ ⟨r0,Au,G5⟩;dsimp only at r0 Au G5 ⊢
      by_cases hr:r<D.n.aq.toNat
      ·have pQ:=bH (show(r:Int)<(((ix (ix (ix D.BL (ix l (p:Int)).2.1) (c:Int)) (ix l (s:Int)).2.1).length:Nat):Int)by omega)
       have hy:=ny.2 _ (aU (l:=ix (ix (ix D.BL (ix l (p:Int)).2.1) (c:Int)) (ix l (s:Int)).2.1) (n:=(r:Int)) (by omega) (by omega))
       have Vb:=Va _ hy.1 hy.2;have anz:=G5.b;have G0:=G5.po Au (by omega)
       have FJ:=G5.pr Au gB;have LN:=G5.s;have gG:=h.cl;have hG:p*D.n.calls.toNat+c<D.n.aB l.length:=by
        have h1:p*D.n.calls.toNat+D.n.calls.toNat<=l.length*D.n.calls.toNat:=by rw[<-Nat.succ_mul];exact jT _ (by omega)
        show _<max 1 (l.length*D.n.calls.toNat);omega
       have hGi:(p:Int)*D.n.calls+(c:Int)=((p*D.n.calls.toNat+c:Nat):Int):=by rw[Int.natCast_add,oE];congr 2;omega
       have Kb:D.n.aB l.length<=128:=by have:=h.kc;show max 1 (l.length*D.n.calls.toNat)<=128;omega
       have XC:=G5.m.has (.pg s (p*D.n.calls.toNat+c)) _ (ae ⟨by rw[Au.lp];exact gB,by rw[Au.mV s gB];exact hG⟩)
       have hZ:=Au.qz s _ gB hG;have w5:0<=(p:Int)*D.n.calls/\(p:Int)*D.n.calls<=128:=by
        have:(p:Int)*D.n.calls=((p*D.n.calls.toNat:Nat):Int):=by rw[oE];congr 1;omega
        omega
       have XD:u6 D cls l st s (p*D.n.calls.toNat+c) r=ix st (ix cls (ix (ix (ix (ix D.BL (ix l (p:Int)).2.1) (c:Int)) (ix l (s:Int)).2.1) (r:Int))):=by
        unfold u6;rw[ab (by omega),show(p*D.n.calls.toNat+c)/D.n.calls.toNat=p from by rw[Nat.mul_comm,Nat.mul_add_div (by omega),Nat.div_eq_of_lt hc,Nat.add_zero],show(p*D.n.calls.toNat+c)%D.n.calls.toNat=c from by rw[Nat.mul_comm,Nat.mul_add_mod,Nat.mod_eq_of_lt hc]]
        rfl
       have hTn:=Au.mS gB hG hr;have hMn:=G5.pop (w:=(A5.cK s (p*D.n.calls.toNat+c)).set r (u6 D cls l st s (p*D.n.calls.toNat+c) r)) (by rw[Au.lp];exact gB) (by rw[Au.mV s gB];exact hG) (ppg s _ gB hG) (by simp)
       have f2:ix (List.range (D.n.aB l.length)) ((p*D.n.calls.toNat+c:Nat):Int)=p*D.n.calls.toNat+c:=by rw[aT (by simpa using hG)];simp
       generalize p*D.n.calls.toNat+c=g at *;have f3:ix (List.range (D.n.aB l.length)) (0+(g:Int)*1)=g:=by rw[<-f2];congr 1;rw[f2];omega
       simp[-ao,-List.map_replicate,pQ,anz,G0,gB,e2,e3,FJ,hGi,f2,f3,hG,XC,LN];refine⟨by omega,by omega,by rw[gG];exact hy,⟨Vb.1,by rw[<-hl];exact Vb.2⟩,hl,by omega,by omega,hZ,by omega,by omega,aX (r+1,_,_) (by simp) ?_ ⟨by dsimp only;omega,hTn,hMn⟩ (by dsimp only;omega)⟩
       dsimp only;rw[Zb,List.map_set,XD]
      ·have pQ:=gl (show ¬(r:Int)<(((ix (ix (ix D.BL (ix l (p:Int)).2.1) (c:Int)) (ix l (s:Int)).2.1).length:Nat):Int)by omega)
       have er:r=D.n.aq.toNat:=by omega
       rw[er]at Au;simp[-ao,-List.map_replicate,pQ];exact⟨by omega,aX (c+1,A5,σ5) (by simp) rfl ⟨by dsimp only;omega,Au.Aq,G5⟩ (by dsimp only;omega)⟩
     ·have G4:=gl (show ¬(c:Int)<D.n.calls by omega)
      have ec:c=D.n.calls.toNat:=by omega
      have epc:p*D.n.calls.toNat+c=(p+1)*D.n.calls.toNat:=by rw[ec,fC,Nat.one_mul]
      rw[epc]at XB;simp[-ao,-List.map_replicate,G4];exact⟨by omega,aX (p+1,A4,L8) (by simp) rfl ⟨by dsimp only;omega,XB,hM4⟩ (by dsimp only;omega)⟩
    ·have ep:p=l.length:=by omega
     rw[ep]at XA;simp[-ao,-List.map_replicate,hp];exact⟨by omega,aX (s+1,A3,xU) (by simp) rfl ⟨by dsimp only;omega,XA.Ar,hM3⟩ (by dsimp only;omega)⟩
  ·have es:s=l.length:=by omega
   subst es;have iy:∀B:ag,al (az σ 0 B) 0=some B:=λB=>cH (by have:=dB ni;omega)
   have vE:=λ(ce:CE) (c0 c1 c2 c3 c4 c5 c6 c7 c8 c9:AV)=>rT (ce:=ce) (σ:=az σ 0 ⟨some 10,[c0,c1,c2,c3,c4,c5,c6,c7,c8,c9],.live⟩) (n:=0) (iy _);have pL:=λB:ag=>(hM.m.other (τ:=az σ 0 B) λt C hC=>aP (by omega)).view
   rw[hT.fin]at pL;have jy:=hT.bX (by omega) (λt=>fp (D.n.aB l.length) t+2)
   rw[hT.fin]at jy;rw[jy]at pL;simp[-ao,-Ce,xR,ni,iy,vE];exact⟨st,pL _,hl,hs⟩
theorem anA (D:Vd) (cls:List Int) (l:List eP) (h:Xx D cls l):∃st:List Int,PC EA [D.vcs.av,iL cls,Mb l]=some (tG D cls l st).av/\st.length=l.length/\∀i:Nat,i<l.length->ix st (vT l i)=i:=Fz (g:=λst:List Int=>(tG D cls l st).av) (R:=λst=>st.length=l.length/\∀i:Nat,i<l.length->ix st (vT l i)=i) (anw D cls l h)
def FK:AV->Bool
 |.sl ..=>false
 |.ptr ..=>false
 |.agg _=>false
 |.bS _=>false
 |.func ..=>false
 |.iface ..=>false
 |_=>true
theorem KM{σ:List ag}{f:Nat}{x:AV}(h:FK x=true){acc:List Nat}:reach σ f x acc=acc:=by
 cases f with
 |zero=>rfl
 |succ f=>cases x<;>first|rfl|(simp[FK]at h)
theorem KN{σ:List ag}{f:Nat}:∀(l:List AV) (acc:List Nat),(∀x∈l,FK x=true)->l.foldl (λacc y=>reach σ f y acc) acc=acc
 | [],_,_=>rfl
 |x::l,acc,h=>by
  rw[mA,KM (h x (by simp))]
  exact KN l acc λy hy=>h y (by simp[hy])
theorem Vc{σ:List ag}{f b u o n:Nat}{B:ag}(hB:al σ b=some B){acc:List Nat}(hn:b∉acc):reach σ (f+1) (.sl b u o n) acc=B.cells.foldl (λacc y=>reach σ f y acc) (b::acc):=by
 simp only[reach,hB];rw[ab (by simpa using hn)]
theorem Ve{σ:List ag}{f b u o:Nat}{B:ag}(hB:al σ b=some B){acc:List Nat}(hn:b∉acc):reach σ (f+1) (.ptr b u o) acc=B.cells.foldl (λacc y=>reach σ f y acc) (b::acc):=by
 simp only[reach,hB];rw[ab (by simpa using hn)]
theorem FL{σ:List ag}{f b u o n:Nat}{B:ag}(hB:al σ b=some B) (h:∀x∈B.cells,FK x=true){acc:List Nat}:reach σ (f+1) (.sl b u o n) acc=if acc.contains b then acc else b::acc:=by
 simp only[reach,hB];rw[KN _ _ h]
theorem KO{b:Nat}{acc:List Nat}:b∈(if acc.contains b then acc else b::acc)/\∀x,(x∈acc->x∈(if acc.contains b then acc else b::acc))/\(x∈(if acc.contains b then acc else b::acc)->x∈acc\/x=b):=by
 by_cases h:acc.contains b=true
 ·rw[ae h]
  exact⟨by simpa using h,λx=>⟨id,.inl⟩⟩
 ·rw[ab h]
  exact⟨by simp,λx=>⟨λa=>by simp[a],λa=>by rcases cD.1 a with a|a;exact .inr a;exact .inl a⟩⟩
theorem KP{α β:Type}{g:Nat->β}{f:α->β->α}{I:Nat->α->Prop}:∀(n:Nat) (a:α),I 0 a->(∀k a,k<n->I k a->I (k+1) (f a (g k)))->I n (((List.range n).map g).foldl f a)
 |0,a,h0,_=>h0
 |n+1,a,h0,hs=>by
  rw[mI,lg,List.foldl_append];exact hs n _ (by omega) (KP n a h0 λk a hk=>hs k a (by omega))
def Tg.seen:Tg->Bool
 |.mp=>false
 |.old _=>false
 |_=>true
theorem Vf{σ:List ag}{f b n:Nat}{B:ag}(hB:n ≠ 0->al σ b=some B) (h:∀x∈B.cells,FK x=true){acc:List Nat}:(n ≠ 0->b∈reach σ (f+1) (cT b n) acc)/\∀x,(x∈acc->x∈reach σ (f+1) (cT b n) acc)/\(x∈reach σ (f+1) (cT b n) acc->x∈acc\/n ≠ 0/\x=b):=by
 by_cases hn:n=0
 ·subst hn
  exact⟨λh=>absurd rfl h,λx=>⟨id,.inl⟩⟩
 ·rw[show cT b n = .sl b n 0 n from ab hn,FL (hB hn) h]
  obtain⟨h1,h2⟩:=KO (b:=b) (acc:=acc);exact⟨λ_=>h1,λx=>⟨(h2 x).1,λa=>((h2 x).2 a).imp id λe=>⟨hn,e⟩⟩⟩
theorem anB{D:Vd}{O:Nat->Option ag}{p:Tg->Nat}{σ:List ag}(h:VS D O p σ){f x u o n:Nat}(hx:x<D.BL.length){acc:List Nat}(anC:p (.rw x)∉acc) :
  (p (.rw x)∈reach σ (f+2) (.sl (p (.rw x)) u o n) acc/\∀c,c<(D.row x).length->D.bX x c ≠ []->p (.cl x c)∈reach σ (f+2) (.sl (p (.rw x)) u o n) acc)/\∀b,(b∈acc->b∈reach σ (f+2) (.sl (p (.rw x)) u o n) acc)/\(b∈reach σ (f+2) (.sl (p (.rw x)) u o n) acc->b∈acc\/b=p (.rw x)\/∃c B,D.cont O p (.cl x c)=some B/\b=p (.cl x c)):=by
 have hb:=h.has (.rw x) _ (ae hx);have e:reach σ (f+2) (.sl (p (.rw x)) u o n) acc=((List.range (D.row x).length).map λc=>cT (p (.cl x c)) (D.bX x c).length).foldl (λacc y=>reach σ (f+1) y acc) (p (.rw x)::acc):=by
  show reach σ ((f+1)+1) _ _=_;simp only[reach,hb];rw[ab (by simpa using anC)]
  rfl
 rw[e];have key:=KP (g:=λc=>cT (p (.cl x c)) (D.bX x c).length) (f:=λacc y=>reach σ (f+1) y acc) (I:=λk a=>(∀c,c<k->D.bX x c ≠ []->p (.cl x c)∈a)/\∀b,(b∈p (.rw x)::acc->b∈a)/\(b∈a->b∈p (.rw x)::acc\/∃c B,D.cont O p (.cl x c)=some B/\b=p (.cl x c))) (D.row x).length (p (.rw x)::acc) ⟨λc hc=>by omega,λb=>⟨id,.inl⟩⟩ λk a hk ⟨i1,i2⟩=>by
  have gG:(D.bX x k).length ≠ 0->al σ (p (.cl x k))=some ⟨none,(D.bX x k).map wI,.live⟩:=λb8=>h.has (.cl x k) _ (ae ⟨hx,hk,λe=>b8 (by rw[e];rfl)⟩)
  obtain⟨s1,s2⟩:=Vf (σ:=σ) (f:=f) gG (λy hy=>by obtain⟨l,_,rfl⟩:=cU.1 hy;rfl) (acc:=a)
  refine⟨λc hc b8=>?_,λb=>⟨λhb=>(s2 b).1 ((i2 b).1 hb),λhb=>?_⟩⟩
  ·by_cases ec:c=k
   ·subst ec;exact s1 λe=>b8 (dW e)
   ·exact(s2 _).1 (i1 c (by omega) b8)
  ·rcases(s2 b).2 hb with hb|⟨b8,rfl⟩
   ·exact(i2 b).2 hb
   ·exact .inr ⟨k,_,ae ⟨hx,hk,λe=>b8 (by rw[e];rfl)⟩,rfl⟩
 generalize ((List.range (D.row x).length).map λc=>cT (p (.cl x c)) (D.bX x c).length).foldl (λacc y=>reach σ (f+1) y acc) (p (.rw x)::acc)=a at *;obtain⟨i1,i2⟩:=key;refine⟨⟨(i2 _).1 (by simp),i1⟩,λb=>⟨λhb=>(i2 b).1 (by simp[hb]),λhb=>?_⟩⟩
 rcases(i2 b).2 hb with hb|hb
 ·rcases cD.1 hb with hb|hb
  ·exact .inr (.inl hb)
  ·exact .inl hb
 ·exact .inr (.inr hb)
theorem anD{D:Vd}{O:Nat->Option ag}{p:Tg->Nat}{σ:List ag}(h:VS D O p σ):(∀t B,t.seen=true->D.cont O p t=some B->p t∈reach σ vd (.ptr (p .v) 16 0) [])/\∀b,b∈reach σ vd (.ptr (p .v) 16 0) []->∃t B,t.seen=true/\D.cont O p t=some B/\b=p t:=by
 have hv:=h.has .v _ rfl;have hZ:=h.has .pl _ rfl;have xO:=h.has .ls _ rfl;have e0:reach σ vd (.ptr (p .v) 16 0) []=(D.box p).cells.foldl (λacc y=>reach σ 11 y acc) [p .v]:=by
  exact Ve (f:=11) hv (by simp)
 have e1:(D.box p).cells.foldl (λacc y=>reach σ 11 y acc) [p .v]=reach σ 11 (cT (p .bl) D.BL.length) (reach σ 11 (cT (p .aR) D.IN.length) (reach σ 11 (.sl (p .ls) D.K.length 0 D.K.length) (reach σ 11 (.sl (p .pl) D.plc.length 0 D.plc.length) [p .v]))):=rfl;rw[e0,e1,FL (f:=10) hZ (λy hy=>by obtain⟨l,_,rfl⟩:=cU.1 hy;rfl),FL (f:=10) xO (λy hy=>by obtain⟨l,_,rfl⟩:=cU.1 hy;rfl)]
 obtain⟨a1,a2⟩:=KO (b:=p .pl) (acc:=[p .v]);generalize (if[p .v].contains (p .pl)then[p .v]else p .pl :: [p .v])=A1 at *
 obtain⟨b1,b2⟩:=KO (b:=p .ls) (acc:=A1);generalize (if A1.contains (p .ls)then A1 else p .ls::A1)=A2 at *
 have eZ:D.IN.length ≠ 0->al σ (p .aR)=some ⟨none,D.IN.map wI,.live⟩:=λb8=>h.has .aR _ (ab λe=>b8 (by rw[e];rfl))
 obtain⟨c1,c2⟩:=Vf (σ:=σ) (f:=10) eZ (λy hy=>by obtain⟨l,_,rfl⟩:=cU.1 hy;rfl) (acc:=A2)
 generalize reach σ 11 (cT (p .aR) D.IN.length) A2=A3 at *;have XE:∀b,b∈A3->b=p .v\/b=p .pl\/b=p .ls\/(D.IN.length ≠ 0/\b=p .aR):=λb hb=>by
  rcases(c2 b).2 hb with hb|hb
  ·rcases(b2 b).2 hb with hb|hb
   ·rcases(a2 b).2 hb with hb|hb
    ·simp at hb;exact .inl hb
    ·exact .inr (.inl hb)
   ·exact .inr (.inr (.inl hb))
  ·exact .inr (.inr (.inr hb))
 have v3:p .v∈A3:=(c2 _).1 ((b2 _).1 ((a2 _).1 (by simp)))
 have pl3:p .pl∈A3:=(c2 _).1 ((b2 _).1 a1);have ls3:p .ls∈A3:=(c2 _).1 b1;have FM:D.IN.length ≠ 0->∃B,D.cont O p .aR=some B:=λb8=>⟨_,ab λe=>b8 (by rw[e];rfl)⟩
 by_cases hB:D.BL.length=0
 ·rw[show cT (p .bl) D.BL.length = .ah by rw[hB];rfl,show reach σ 11 .ah A3=A3 from rfl]
  have o9 : D.BL=[]:=dW hB;refine⟨λt B ht hc=>?_,λb hb=>?_⟩
  ·cases t with
   |v=>exact v3
   |pl=>exact pl3
   |ls=>exact ls3
   |aR=>exact c1 λe=>by simp[Vd.cont,dW e]at hc
   |mp=>simp[Tg.seen]at ht
   |old i=>simp[Tg.seen]at ht
   |bl=>simp[Vd.cont,o9]at hc
   |rw x=>simp[Vd.cont,o9]at hc
   |cl x c=>simp[Vd.cont,o9]at hc
  ·rcases XE b hb with rfl|rfl|rfl|⟨b8,rfl⟩
   ·exact⟨.v,_,rfl,rfl,rfl⟩
   ·exact⟨.pl,_,rfl,rfl,rfl⟩
   ·exact⟨.ls,_,rfl,rfl,rfl⟩
   ·obtain⟨B,hB⟩:=FM b8
    exact⟨.aR,B,rfl,hB,rfl⟩
 ·have o9 : D.BL ≠ []:=λe=>hB (by rw[e];rfl)
  have ny:D.cont O p .bl=some (D.ua p):=ab o9;have sA:=h.has .bl _ ny;have nbl:p .bl∉A3:=λhb=>by
   rcases XE _ hb with e|e|e|⟨b8,e⟩
   ·exact h.ne ny (u:=.v) rfl (by simp) e
   ·exact h.ne ny (u:=.pl) rfl (by simp) e
   ·exact h.ne ny (u:=.ls) rfl (by simp) e
   ·obtain⟨B,hB⟩:=FM b8
    exact h.ne ny hB (by simp) e
  have e2:reach σ 11 (cT (p .bl) D.BL.length) A3=((List.range D.BL.length).map λx=>AV.sl (p (.rw x)) (D.row x).length 0 (D.row x).length).foldl (λacc y=>reach σ 10 y acc) (p .bl::A3):=by
   rw[show cT (p .bl) D.BL.length = .sl (p .bl) D.BL.length 0 D.BL.length from ab hB];exact Vc (f:=10) sA nbl
  rw[e2];have key:=KP (g:=λx=>AV.sl (p (.rw x)) (D.row x).length 0 (D.row x).length) (f:=λacc y=>reach σ 10 y acc) (I:=λk a=>(∀x,x<k->p (.rw x)∈a/\∀c,c<(D.row x).length->D.bX x c ≠ []->p (.cl x c)∈a)/\∀b,(b∈p .bl::A3->b∈a)/\(b∈a->b∈p .bl::A3\/∃x,x<k/\(b=p (.rw x)\/∃c B,D.cont O p (.cl x c)=some B/\b=p (.cl x c)))) D.BL.length (p .bl::A3) ⟨λx hx=>by omega,λb=>⟨id,.inl⟩⟩ λk a hk ⟨i1,i2⟩=>by
   have KQ:D.cont O p (.rw k)=some (D.kn p k):=ae hk;have nk:p (.rw k)∉a:=λhb=>by
    rcases(i2 _).2 hb with hb|⟨x,hx,e|⟨c,B,hc,e⟩⟩
    ·rcases cD.1 hb with e|hb
     ·exact h.ne KQ ny (by simp) e
     ·rcases XE _ hb with e|e|e|⟨b8,e⟩
      ·exact h.ne KQ (u:=.v) rfl (by simp) e
      ·exact h.ne KQ (u:=.pl) rfl (by simp) e
      ·exact h.ne KQ (u:=.ls) rfl (by simp) e
      ·obtain⟨B,hB⟩:=FM b8
       exact h.ne KQ hB (by simp) e
    ·exact h.ne KQ (u:=.rw x) (ae (by omega)) (by simp;omega) e
    ·exact h.ne KQ hc (by simp) e
   obtain⟨⟨r1,r2⟩,r3⟩:=anB h (f:=8) hk (u:=(D.row k).length) (o:=0) (n:=(D.row k).length) nk;refine⟨λx hx=>?_,λb=>⟨λhb=>(r3 b).1 ((i2 b).1 hb),λhb=>?_⟩⟩
   ·by_cases e:x=k
    ·subst e;exact⟨r1,r2⟩
    ·obtain⟨q1,q2⟩:=i1 x (by omega)
     exact⟨(r3 _).1 q1,λc hc b8=>(r3 _).1 (q2 c hc b8)⟩
   ·rcases(r3 b).2 hb with hb|hb
    ·rcases(i2 b).2 hb with hb|⟨x,hx,q⟩
     ·exact .inl hb
     ·exact .inr ⟨x,by omega,q⟩
    ·exact .inr ⟨k,by omega,hb⟩
  generalize ((List.range D.BL.length).map λx=>AV.sl (p (.rw x)) (D.row x).length 0 (D.row x).length).foldl (λacc y=>reach σ 10 y acc) (p .bl::A3)=a at *;obtain⟨i1,i2⟩:=key;have up:∀b,b∈A3->b∈a:=λb hb=>(i2 b).1 (by simp[hb])
  refine⟨λt B ht hc=>?_,λb hb=>?_⟩
  ·cases t with
   |v=>exact up _ v3
   |pl=>exact up _ pl3
   |ls=>exact up _ ls3
   |aR=>exact up _ (c1 λe=>by simp[Vd.cont,dW e]at hc)
   |mp=>simp[Tg.seen]at ht
   |old i=>simp[Tg.seen]at ht
   |bl=>exact(i2 _).1 (by simp)
   |rw x=>
    have hx:x<D.BL.length:=eU λhn=>by simp[Vd.cont,hn]at hc
    exact(i1 x hx).1
   |cl x c=>
    have hx:x<D.BL.length/\c<(D.row x).length/\D.bX x c ≠ []:=eU λhn=>by
     have hc:(if x<D.BL.length/\c<(D.row x).length/\D.bX x c ≠ []then some _ else none)=some B:=hc
     rw[ab hn]at hc;simp at hc
    exact(i1 x hx.1).2 c hx.2.1 hx.2.2
  ·rcases(i2 b).2 hb with hb|⟨x,hx,rfl|⟨c,B,hc,rfl⟩⟩
   ·rcases cD.1 hb with rfl|hb
    ·exact⟨.bl,_,rfl,ny,rfl⟩
    ·rcases XE b hb with rfl|rfl|rfl|⟨b8,rfl⟩
     ·exact⟨.v,_,rfl,rfl,rfl⟩
     ·exact⟨.pl,_,rfl,rfl,rfl⟩
     ·exact⟨.ls,_,rfl,rfl,rfl⟩
     ·obtain⟨B,hB⟩:=FM b8
      exact⟨.aR,B,rfl,hB,rfl⟩
   ·exact⟨.rw x,_,rfl,ae hx,rfl⟩
   ·exact⟨.cl x c,B,rfl,hc,rfl⟩
theorem VS.Vg{D:Vd}{O:Nat->Option ag}{p:Tg->Nat}{σ τ:List ag}(h:VS D O p σ) (hb:∀t B,t.seen=true->D.cont O p t=some B->al τ (p t)=some B):Ab.view τ false vd (.ptr (p .v) 16 0)=some D.vcs.av:=by
 have hv:=hb .v _ rfl rfl;have hu:upto τ (p .v) 16=some (D.box p):=uR hv rfl rfl;show Ab.view τ false (11+1) _=_;unfold Ab.view;simp only[hu];have hp:part (D.box p).cells 0 (D.box p).k=some (.agg (D.box p).cells):=rfl;rw[ae (by rfl),hp]
 have hm:bZ (Ab.view τ false 10) (D.box p).cells=some [.int D.n.calls,.int D.n.aj,.int D.n.aq,.int D.n.stack,.int D.n.start,bL D.n.accept,cO D.n.call,cO D.n.push,cO D.n.inner,fX D.n.pop,iL D.n.bw,iL D.plc,cO D.K,.qb,cO D.IN,nw D.BL]:=by
  unfold Vd.box;refine cJ rfl (cJ rfl (cJ rfl (cJ rfl (cJ rfl (cJ rfl (cJ rfl (cJ rfl (cJ rfl (cJ rfl (cJ rfl (cJ ?_ (cJ ?_ (cJ rfl (cJ ?_ (cJ ?_ rfl)))))))))))))))
  ·exact gx (k:=9) (hb .pl _ rfl rfl) rfl rfl λ_ _=>rfl
  ·exact gx (k:=9) (hb .ls _ rfl rfl) rfl rfl λ_ _=>rfl
  ·exact qw (k:=9) (λhx=>hb .aR _ rfl (ab hx)) rfl λ_ _=>rfl
  ·have e:nw D.BL = .aE false ((List.range D.BL.length).map λ(x:Nat)=>fX (D.row x)):=by
    unfold Vd.row;rw[qv (f:=fX)]
   rw[e];refine qw (k:=9) (f:=λx=>.sl (p (.rw x)) (D.row x).length 0 (D.row x).length) (λhx=>hb .bl _ rfl (ab λe=>hx (by rw[e];rfl))) (by simp) λx hx=>?_
   have bR :=cA.1 hx;have e:fX (D.row x) = .aE false ((List.range (D.row x).length).map λ(c:Nat)=>cO (D.bX x c)):=by
    unfold Vd.bX;rw[qv (f:=cO)]
   rw[e];refine gx (k:=8) (f:=λc=>cT (p (.cl x c)) (D.bX x c).length) (hb (.rw x) _ rfl (ae bR)) rfl (by simp) λc hc=>?_
   exact qw (k:=7) (λhz=>hb (.cl x c) _ rfl (ae ⟨bR, cA.1 hc,hz⟩)) rfl λ_ _=>rfl
 have Xc:Ab.view τ false 11 (.agg (D.box p).cells)=some (.agg [.int D.n.calls,.int D.n.aj,.int D.n.aq,.int D.n.stack,.int D.n.start,bL D.n.accept,cO D.n.call,cO D.n.push,cO D.n.inner,fX D.n.pop,iL D.n.bw,iL D.plc,cO D.K,.qb,cO D.IN,nw D.BL]):=by
  show Ab.view τ false (10+1) _=_;unfold Ab.view;simp only[hm]
 simp only[Xc]
theorem Vh{D:Vd}{O:Nat->Option ag}{p:Tg->Nat}{vars:List AV}{fl:Option (Nat×AV)}{σ:List ag}{k b:Nat}{A:ag}{Q:Ex->St->Prop}(h:VS D O p σ) (hn:nth vars k = .ptr (p .v) 16 0) (hA:O b=some A) (hq:∀τ,al τ b=some A->Q .ft ⟨eV vars k D.vcs.av,fl,τ⟩):W L (.lB k) ⟨vars,fl,σ⟩ Q:=by
 obtain⟨r1,r2⟩:=anD h;have hv:=h.Vg (τ:=bQ (λc=>!(reach σ vd (.ptr (p .v) 16 0) []).contains c) 0 σ) λt B ht hc=>by
  rw[nS,h.has t B hc];simp[r1 t B ht hc]
 have hs:gZ σ (.ptr (p .v) 16 0)=false:=rfl;have hb:al (bQ (λc=>(reach σ vd (.ptr (p .v) 16 0) []).contains c) 0 σ) b=some A:=by
  have ho:D.cont O p (.old b)=some A:=hA;have:=h.has _ _ ho;rw[h.old]at this;rw[nS,this];have:b∉reach σ vd (.ptr (p .v) 16 0) []:=λhm=>by
   obtain⟨t,B,ht,hc,e⟩:=r2 b hm;refine h.ne ho hc (λe2=>?_) (by rw[h.old];exact e)
   rw[<-e2]at ht;simp[Tg.seen]at ht
  simp[this]
 refine⟨0,.ft,_,?_,hq _ hb⟩;simp only[exec,hn,hv,hs]
 rfl
end Ab
