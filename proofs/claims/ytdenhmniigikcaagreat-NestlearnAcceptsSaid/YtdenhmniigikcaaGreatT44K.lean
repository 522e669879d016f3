/- The learner's missing word; and what it leans on. Condition: none. -/
import Derived.Test.YtdenhmniigikcaaGreatT44D
import Derived.KernelRfl
set_option linter.all false
set_option maxRecDepth 100000
set_option maxHeartbeats 8000000
namespace Ab
attribute [local simp] nX
def Lg.pI (S:Lg):List (List Int)->AV
 | []=>.bS [.ah,.bool false,.int 0]
 |w::l=>if S.n.kp w S.cs ≠ 0 then .bS [.ah,.bool false,.int (S.n.kp w S.cs)]else if S.row w∈S.ws.map S.row then S.pI l else .bS [iL w,.bool true,.int 0]
def Lg.vW (S:Lg):AV:=if S.pX S.ws ≠ 0 then .bS [.ah,.bool false,.int (S.pX S.ws)]else S.pI (gC (S.n.iQ S.ws S.ws))
theorem Ws{S:Lg}{O:Nat->Option ag}{σ:List ag}(h:LM S O σ) (ho:S.Ok) (hz:((S.n.iQ S.ws S.ws).length:Int)<=1000000) (hf:pA (S.n.iQ S.ws S.ws)) (hx:∀w∈gC (S.n.iQ S.ws S.ws),dC w/\w.length<=10000) (WW:(gC (S.n.iQ S.ws S.ws)).length<=1000000):LX L Jv [.ptr 3 13 0] σ (λr τ=>∃T,bU S T/\LM T O τ/\σ.length<=τ.length/\r=S.vW):=by
 refine ajp rfl ?_;obtain⟨r,τ,hc,T,hs,hle,hr⟩:=dS (Wm h ho);rcases hr with⟨he,hT,rfl⟩|⟨he,hT,rfl⟩
 ·have AI:=hs.ok ho
  have Ls:S.vW=S.pI (gC (S.n.iQ S.ws S.ws)):=by unfold Lg.vW;rw[ab (by simp[he])]
  have e1:T.n.iQ T.ws T.ws=S.n.iQ S.ws S.ws:=by rw[hs.1,hs.2.1]
  obtain⟨r,Bb,nm,Bj,BK,rfl⟩:=dS (aoT hT AI (by rw[e1];exact hz) (by rw[e1];exact hf))
  rw[e1]at nm;generalize gC (S.n.iQ S.ws S.ws)=E at *;simp[-ao,hc,nm];refine bu (λq:Nat×Lg×List ag=>[(2,.int q.1)]) (λq=>q.2.2) (λq=>q.1<=E.length/\LM q.2.1 (mh O σ.length (tQ S S.ws.length)) q.2.2/\bU S q.2.1/\σ.length<=q.2.2.length/\S.pI E=S.pI (E.drop q.1)) (λq=>E.length-q.1) (0,T,Bb) (by simp[bY]) ⟨by simp,Bj,hs,by dsimp only;omega,rfl⟩ ?_
  rintro⟨k,U,υ⟩ ⟨k0,hU,qX,XR,sT⟩;dsimp only at k0 hU qX XR sT ⊢
  by_cases hk:k<E.length
  ·have XS:=qX.ok ho
   have Bm:=hx _ (aU (l:=E) (n:=(k:Int)) (by omega) (by omega))
   obtain⟨r,υ', Hn,U', hU', gV, cw, rfl⟩:=dS (Lq hU XS.fits XS.cs XS.cl.1 XS.cl.2 (ix E (k:Int)) Bm.1 (by omega))
   rw[qX.1,qX.2.2]at Hn;have sc:=qX.trans gV;have hd:E.drop k=ix E (k:Int)::E.drop (k+1):=by rw[aT hk,List.getElem_cons_drop]
   rw[hd]at sT;have sU:LM U' O υ' :=hU'.sub λi B hB=>by
    have:=dB (h.o i B hB).1;unfold mh;rw[ab (by omega)]
    exact hB
   by_cases uk:S.n.kp (ix E (k:Int)) S.cs=0
   ·rw[show Hi S.n S.cs (ix E (k:Int)) = .bS [.str (ff (S.row (ix E (k:Int)))),.int 0]from ae uk]at Hn
    have hB:=(hU'.o σ.length _ (ae rfl)).1;have hK:∀x∈S.ws.map S.row,dC x:=λx hx=>by
     obtain⟨w,_,rfl⟩:=cU.1 hx;exact vb
    have Be:=wX (l:=S.row (ix E (k:Int))) vb 0 _ hK;have qR:∀x,bg 1 (.str x)=true:=λ_=>rfl;have bV:tQ S S.ws.length=⟨some 0,[],.map (qQ 0 (S.ws.map S.row))⟩:=by
     unfold tQ;rw[gu (bA _)]
    rw[bV]at hB
    by_cases eZ:S.row (ix E (k:Int))∈S.ws.map S.row
    ·rw[ae eZ]at Be
     simp[-ao,-List.mem_map,hk,Hn,hB,Be,qR];refine⟨by omega,aX (k+1,U', υ') (by simp) rfl ⟨by dsimp only;omega,hU', sc,by dsimp only;omega,?_⟩ (by dsimp only;omega)⟩
     dsimp only;rw[sT];show(if _ then _ else _)=_
     rw[ab (by simp[uk]),ae eZ]
    ·rw[ab eZ]at Be
     simp[-ao,-List.mem_map,hk,Hn,hB,Be,qR];refine⟨U', sc,sU,by omega,?_⟩
     rw[Ls,sT];show _=(if _ then _ else _)
     rw[ab (by simp[uk]),ab eZ]
   ·rw[show Hi S.n S.cs (ix E (k:Int)) = .bS [.str [],.int (S.n.kp (ix E (k:Int)) S.cs)]from ab uk]at Hn
    simp[-ao,hk,Hn,uk];refine⟨U', sc,sU,by omega,?_⟩
    rw[Ls,sT];show _=(if _ then _ else _)
    rw[ae uk]
  ·rw[jJ (by omega)]at sT
   simp[-ao,hk];refine⟨U,qX,hU.sub λi B hB=>?_,XR,?_⟩
   ·have:=dB (h.o i B hB).1
    unfold mh;rw[ab (by omega)]
    exact hB
   ·rw[Ls,sT];rfl
 ·simp[-ao,hc,he]
  exact⟨T,hs,hT,hle,by unfold Lg.vW;rw[ae he]⟩
end Ab
namespace Ab
attribute [local simp] nX
structure Lg.Fit (S:Lg):Prop where
 ok:S.Ok
 hz:((S.n.iQ S.ws S.ws).length:Int)<=1000000
 hf:pA (S.n.iQ S.ws S.ws)
 hx:∀w∈gC (S.n.iQ S.ws S.ws),dC w/\w.length<=10000
 hl:(gC (S.n.iQ S.ws S.ws)).length<=1000000
def Lg.put (S:Lg) (w:List Int):Lg:={S with ws:=gC (S.ws ++ [w])}
inductive Cm (E:Lg):Nat->Lg->Prop
 |done (S:Lg):S.Fit->S.vW = .bS [.ah,.bool false,.int 0]->bU S E->Cm E 0 S
 |step (k:Nat) (S:Lg) (w:List Int):S.Fit->S.vW = .bS [iL w,.bool true,.int 0]->w.length<=10000->S.ws.length+1<=128->((S.ws.length:Int)+1)*S.n.calls<=128->Cm E k (S.put w)->Cm E (k+1) S
theorem bU.symm{S T:Lg}(h:bU S T):bU T S:=⟨h.1.symm,h.2.1.symm,h.2.2.symm⟩
theorem bU.pX{S T:Lg}(h:bU S T):∀l,T.pX l=S.pX l
 | []=>rfl
 |w::l=>by simp only[Lg.pX,h.1,h.2.2,h.pX l]
theorem bU.row{S T:Lg}(h:bU S T):T.row=S.row:=by unfold Lg.row;rw[h.1,h.2.2]
theorem bU.pI{S T:Lg}(h:bU S T):∀l,T.pI l=S.pI l
 | []=>rfl
 |w::l=>by simp only[Lg.pI,h.1,h.2.1,h.2.2,h.row,h.pI l]
theorem bU.vW{S T:Lg}(h:bU S T):T.vW=S.vW:=by
 unfold Lg.vW;rw[h.pI,h.1,h.2.1,h.pX]
theorem bU.fit{S T:Lg}(h:bU S T) (g:S.Fit):T.Fit:=⟨h.ok g.ok,by rw[h.1,h.2.1];exact g.hz,by rw[h.1,h.2.1];exact g.hf,by rw[h.1,h.2.1];exact g.hx,by rw[h.1,h.2.1];exact g.hl⟩
theorem Cm.same{E:Lg}{k:Nat}{S:Lg}(h:Cm E k S):∀{T:Lg},bU S T->Cm E k T:=by
 induction h with
 |done S hf hm hs=>exact λg=>.done _ (g.fit hf) (by rw[g.vW];exact hm) (g.symm.trans hs)
 |step k S w hf hm hw h1 h2 _ ih=>exact fun {T} g=>.step k T w (g.fit hf) (by rw[g.vW];exact hm) hw (by rw[g.2.1];exact h1) (by rw[g.1,g.2.1];exact h2) (ih ⟨g.1,by unfold Lg.put;rw[g.2.1],g.2.2⟩)
theorem LM.words{S:Lg}{O:Nat->Option ag}{σ τ:List ag}(h:LM S O σ) (ws:List (List Int))
  (hl:al τ 3=some ⟨some 13,S.n.pV ++ [cO ws,.sl S.pc (2*S.cs.length) 0 S.cs.length,.cQ 2],.live⟩)
  (ho:∀i,i ≠ 3->al τ i=al σ i):LM {S with ws:=ws} O τ:=
 ⟨hl,by rw[ho 2 (by omega)];exact h.m,by rw[show({S with ws:=ws}:Lg).pc=S.pc from rfl,ho _ h.Bl.2];exact h.c,λe he=>by rw[ho _ (h.xu e he).2.1];exact h.r e he,h.le,h.ok,h.nd,h.nb,h.Bl,h.xu,λi B hB=>by
  obtain⟨h1,h2,h3,h4⟩:=h.o i B hB;exact⟨by rw[ho i h3];exact h1,h2,h3,h4⟩⟩
theorem aoV{S E:Lg}{O:Nat->Option ag}{σ:List ag}{k:Nat}(h:LM S O σ) (hc:Cm E k S):LX L Jp [.ptr 3 13 0] σ (λr τ=>∃T,bU T E/\LM T O τ/\σ.length<=τ.length/\r = .int 0):=by
 refine ai9 rfl ?_;simp[-ao];refine bu (λq:Nat×Lg×List ag=>[]) (λq=>q.2.2) (λq=>LM q.2.1 O q.2.2/\Cm E q.1 q.2.1/\σ.length<=q.2.2.length) (λq=>q.1) (k,S,σ) (by simp[bY]) ⟨h,hc,bA _⟩ ?_
 rintro⟨j,T,τ⟩ ⟨hT,Ga,hlT⟩;dsimp only at hT Ga hlT ⊢;cases Ga with
 |done _ hf hm hs=>
  obtain⟨r,FT, gG,U,qX,hU,XR,rfl⟩:=dS (Ws hT hf.ok hf.hz hf.hf hf.hx hf.hl);rw[hm]at gG;simp[-ao,gG];exact⟨U,qX.symm.trans hs,hU,by omega⟩
 |step k _ w hf hm hw h1 h2 hn=>
  obtain⟨r,FT, gG,U,qX,hU,XR,rfl⟩:=dS (Ws hT hf.ok hf.hz hf.hf hf.hx hf.hl);rw[hm]at gG;have hL:=hU.l;rw[qX.1,qX.2.1,qX.2.2]at hL;have hun:=aoK [T.ws,[w]] (by simp) (by simp[kD];omega) (by
   intro v hv;simp[kD]at hv;rcases hv with hv|rfl
   ·have:=(hf.ok.ws v hv).2;omega
   ·omega)
  have A7:kD [T.ws,[w]]=T.ws ++ [w]:=by simp[kD]
  rw[A7]at hun;obtain⟨q1,q2⟩:=hf.ok.ok.calls;have aoW : PC EK [.aE false [.aE false (T.ws.map iL),.aE false [.aE false (w.map .int)]]]=some (cO (gC (T.ws ++ [w]))):=hun;have hq:0<=((T.ws.length:Int)+1)*T.n.calls:=Int.mul_nonneg (by omega) q1
  have e1:=bH h2;have e2:=bH (show(T.ws.length:Int)+1<=128 by omega)
  simp[-ao,gG,hL,ak.pV,aoW, e1,e2];refine⟨by omega,by omega,aX (k,U.put w,_) (by simp) rfl ⟨hU.words _ (by rw[qX.1,qX.2.1,qX.2.2];exact cH (dB hU.l)) λi hi=>aP (Ne.symm hi),hn.same ⟨qX.1,by unfold Lg.put;rw[qX.2.1],qX.2.2⟩,by dsimp only;rw[cg];omega⟩ (by dsimp only;omega)⟩
end Ab
namespace Ab
structure p6 where
 n:ak
 k:Nat
 fa:Nat->Bool
 fi:Nat->Nat->Int
 fq:Nat->Nat->Nat->Int
def p6.qq (F:p6) (i g r:Nat):Int:=if F.n.calls.toNat=0 then 0 else F.fq i g r
structure Hs (F:p6) (a s J G R:Nat) (A:ak):Prop where
 h1:A.calls=F.n.calls
 h2:A.aj=F.n.aj
 h3:A.aq=F.n.aq
 h4:A.stack=((F.n.aB F.k:Nat):Int)
 h5:A.start=0
 h6:A.call=(F.n.dO F.k F.k).call
 h7:A.push=(F.n.dO F.k F.k).push
 la:A.accept.length=F.k
 li:A.inner.length=F.k
 qx:∀i,i<F.k->(A.cF .aR i).length=F.n.aj.toNat
 lp:A.pop.length=F.k
 mV:∀i,i<F.k->(A.bI i).length=F.n.aB F.k
 qz:∀i g,i<F.k->g<F.n.aB F.k->(A.cK i g).length=F.n.aq.toNat
 ac:∀i:Nat,i<F.k->ix A.accept (i:Int)=if i<a then F.fa i else false
 aR:∀i j:Nat,i<F.k->j<F.n.aj.toNat->ix (A.cF .aR i) (j:Int)=if i<s\/i=s/\j<J then F.fi i j else 0
 pop:∀i g r:Nat,i<F.k->g<F.n.aB F.k->r<F.n.aq.toNat->ix (A.cK i g) (r:Int)=if i<s\/i=s/\(g<G\/g=G/\r<R)then F.qq i g r else 0
theorem aoX{F:p6}:Hs F 0 0 0 0 0 (F.n.dO F.k F.k):=by
 refine⟨rfl,rfl,rfl,rfl,rfl,rfl,rfl,by simp[ak.dO],by simp[ak.dO],λi hi=>by rw[KI hi];rfl,mU,λi hi=>by rw[(kO hi).2.2.2];simp,λi g hi hg=>by rw[u4 hi hg];simp,λi hi=>?_,λi j hi hj=>?_,λi g r hi hg hr=>?_⟩
 ·rw[ab (by omega)];exact lq hi
 ·rw[ab (by omega),(kO hi).2.2.1];exact lq hj
 ·rw[ab (by omega),u4 hi hg];exact lq hr
theorem Hs.bX{F:p6}{a s J G R:Nat}{A:ak}(h:Hs F a s J G R A) (hk:F.k ≠ 0) (p:Tn->Nat):A.bX p=[.int F.n.calls,.int F.n.aj,.int F.n.aq,.int ((F.n.aB F.k:Nat):Int),.int 0,.sl (p .ac) F.k 0 F.k,.sl (p (.ls .cl)) F.k 0 F.k,.sl (p (.ls .ps)) F.k 0 F.k,.sl (p (.ls .aR)) F.k 0 F.k,.sl (p .po) F.k 0 F.k]:=by
 have e1:A.call.length=F.k:=by rw[h.h6];exact mT .cl
 have e2:A.push.length=F.k:=by rw[h.h7];exact mT .ps
 unfold ak.bX cT;rw[h.h1,h.h2,h.h3,h.h4,h.h5,h.la,e1,e2,h.li,h.lp,ab hk,ab hk,ab hk,ab hk]
theorem Hs.mQ{F:p6}{s J G R:Nat}{A:ak}(h:Hs F s s J G R A) (hs:s<F.k):Hs F (s+1) s J G R {A with accept:=A.accept.set s (F.fa s)}:=by
 refine⟨h.h1,h.h2,h.h3,h.h4,h.h5,h.h6,h.h7,by simp[h.la],h.li,h.qx,h.lp,h.mV,h.qz,λi hi=>?_,h.aR,h.pop⟩
 show ix (A.accept.set s _) (i:Int)=_;rw[jd (by rw[h.la];exact hs)]
 by_cases e:i=s
 ·rw[ae e,ae (by omega),e]
 ·rw[ab e,h.ac i hi]
  by_cases e2:i<s
  ·rw[ae e2,ae (by omega)]
  ·rw[ab e2,ab (by omega)]
theorem Hs.mR{F:p6}{a s J G R:Nat}{A:ak}(h:Hs F a s J G R A) (hs:s<F.k) (hJ:J<F.n.aj.toNat):Hs F a s (J+1) G R {A with inner:=A.inner.set s ((A.cF .aR s).set J (F.fi s J))}:=by
 have dY:∀s' : Nat,ak.cF {A with inner:=A.inner.set s ((A.cF .aR s).set J (F.fi s J))} .aR s' = if s' = s then(A.cF .aR s).set J (F.fi s J)else A.cF .aR s' :=λs' =>jd (by rw[h.li];exact hs) s'
 refine⟨h.h1,h.h2,h.h3,h.h4,h.h5,h.h6,h.h7,h.la,by simp[h.li],λi hi=>?_,h.lp,h.mV,h.qz,h.ac,λi j hi hj=>?_,h.pop⟩
 ·rw[dY]
  split
  ·rw[nQ];exact h.qx s hs
  ·exact h.qx i hi
 ·rw[dY]
  by_cases e:i=s
  ·rw[ae e,jd (by rw[h.qx s hs];exact hJ)]
   by_cases e2:j=J
   ·rw[ae e2,ae (.inr ⟨e,by omega⟩),e,e2]
   ·subst e
    rw[ab e2,h.aR i j hi hj]
    by_cases e3:j<J
    ·rw[ae (.inr ⟨rfl,e3⟩),ae (.inr ⟨rfl,by omega⟩)]
    ·rw[ab (by omega),ab (by omega)]
  ·rw[ab e,h.aR i j hi hj]
   by_cases e3:i<s
   ·rw[ae (.inl e3),ae (.inl e3)]
   ·rw[ab (by omega),ab (by omega)]
theorem Hs.mS{F:p6}{a s J G R:Nat}{A:ak}(h:Hs F a s J G R A) (hs:s<F.k) (hG:G<F.n.aB F.k) (hR:R<F.n.aq.toNat):Hs F a s J G (R+1) {A with pop:=A.pop.set s ((A.bI s).set G ((A.cK s G).set R (F.qq s G R)))}:=by
 have dY:∀s' : Nat,ak.bI {A with pop:=A.pop.set s ((A.bI s).set G ((A.cK s G).set R (F.qq s G R)))} s' = if s' = s then(A.bI s).set G ((A.cK s G).set R (F.qq s G R))else A.bI s' :=λs' =>jd (by rw[h.lp];exact hs) s'
 have jy:∀s' g' : Nat,ak.cK {A with pop:=A.pop.set s ((A.bI s).set G ((A.cK s G).set R (F.qq s G R)))} s' g' = if s' = s/\g' = G then(A.cK s G).set R (F.qq s G R)else A.cK s' g' :=λs' g' =>by
  generalize (A.cK s G).set R (F.qq s G R)=w at *;unfold ak.cK;rw[dY]
  by_cases e:s' = s
  ·rw[ae e,jd (by rw[h.mV s hs];exact hG)]
   by_cases e2:g' = G
   ·rw[ae e2,ae ⟨e,e2⟩]
   ·rw[ab e2,ab λa=>e2 a.2,e]
  ·rw[ab e,ab λa=>e a.1]
 refine⟨h.h1,h.h2,h.h3,h.h4,h.h5,h.h6,h.h7,h.la,h.li,h.qx,by simp[h.lp],λi hi=>?_,λi g hi hg=>?_,h.ac,h.aR,λi g r hi hg hr=>?_⟩
 ·rw[dY]
  split
  ·rw[nQ];exact h.mV s hs
  ·exact h.mV i hi
 ·rw[jy]
  split
  ·rw[nQ];exact h.qz s G hs hG
  ·exact h.qz i g hi hg
 ·rw[jy]
  by_cases e:i=s/\g=G
  ·rw[ae e,jd (by rw[h.qz s G hs hG];exact hR)]
   by_cases e2:r=R
   ·rw[ae e2,ae (.inr ⟨e.1,.inr ⟨e.2,by omega⟩⟩),e.1,e.2,e2]
   ·have hp:=h.pop s G r hs hG hr
    rw[ab e2,hp,e.1,e.2]
    by_cases e3:r<R
    ·rw[ae (.inr ⟨rfl,.inr ⟨rfl,e3⟩⟩),ae (.inr ⟨rfl,.inr ⟨rfl,by omega⟩⟩)]
    ·rw[ab (by omega),ab (by omega)]
  ·rw[ab e,h.pop i g r hi hg hr]
   by_cases e3:i<s\/i=s/\(g<G\/g=G/\r<R)
   ·rw[ae e3,ae (by omega)]
   ·rw[ab e3,ab (by omega)]
theorem Hs.Aq{F:p6}{a s J G:Nat}{A:ak}(h:Hs F a s J G F.n.aq.toNat A):Hs F a s J (G+1) 0 A:=by
 refine⟨h.h1,h.h2,h.h3,h.h4,h.h5,h.h6,h.h7,h.la,h.li,h.qx,h.lp,h.mV,h.qz,h.ac,h.aR,λi g r hi hg hr=>?_⟩;rw[h.pop i g r hi hg hr]
 by_cases e3:i<s\/i=s/\(g<G\/g=G/\r<F.n.aq.toNat)
 ·rw[ae e3,ae (by omega)]
 ·rw[ab e3,ab (by omega)]
theorem Hs.Ar{F:p6}{s:Nat}{A:ak}(h:Hs F (s+1) s F.n.aj.toNat (F.k*F.n.calls.toNat) 0 A):Hs F (s+1) (s+1) 0 0 0 A:=by
 refine⟨h.h1,h.h2,h.h3,h.h4,h.h5,h.h6,h.h7,h.la,h.li,h.qx,h.lp,h.mV,h.qz,h.ac,λi j hi hj=>?_,λi g r hi hg hr=>?_⟩
 ·rw[h.aR i j hi hj]
  by_cases e3:i<s\/i=s/\j<F.n.aj.toNat
  ·rw[ae e3,ae (by omega)]
  ·rw[ab e3,ab (by omega)]
 ·rw[h.pop i g r hi hg hr]
  by_cases hc:F.n.calls.toNat=0
  ·have:F.qq i g r=0:=ae hc
   rw[this];simp
  ·have bV:F.n.aB F.k=max 1 (F.k*F.n.calls.toNat):=rfl
   have:1<=F.k*F.n.calls.toNat:=Nat.mul_pos (by omega) (by omega)
   by_cases e3:i<s\/i=s/\(g<F.k*F.n.calls.toNat\/g=F.k*F.n.calls.toNat/\r<0)
   ·rw[ae e3,ae (by omega)]
   ·rw[ab e3,ab (by omega)]
def p6.sj (F:p6):ak:=⟨F.n.calls,F.n.aj,F.n.aq,((F.n.aB F.k:Nat):Int),0,(List.range F.k).map λi=>F.fa i,(F.n.dO F.k F.k).call,(F.n.dO F.k F.k).push,(List.range F.k).map λi=>(List.range F.n.aj.toNat).map λj=>F.fi i j,(List.range F.k).map λi=>(List.range (F.n.aB F.k)).map λg=>(List.range F.n.aq.toNat).map λr=>F.qq i g r⟩
theorem Hs.fin{F:p6}{A:ak}(h:Hs F F.k F.k 0 0 0 A):A=F.sj:=by
 obtain⟨c,i,r,sk,s0,ac,cl,ps,aR,po⟩:=A;have e1:c=F.n.calls:=h.h1;have e2:i=F.n.aj:=h.h2;have e3:r=F.n.aq:=h.h3;have e4:sk=((F.n.aB F.k:Nat):Int):=h.h4;have e5:s0=0:=h.h5;have e6:cl=(F.n.dO F.k F.k).call:=h.h6;have e7:ps=(F.n.dO F.k F.k).push:=h.h7;have e8:ac=(List.range F.k).map λi=>F.fa i:=oh h.la λi hi=>by
  have:=h.ac i hi;rw[ae hi]at this;exact this
 have e9:aR=(List.range F.k).map λi=>(List.range F.n.aj.toNat).map λj=>F.fi i j:=oh h.li λi hi=>oh (h.qx i hi) λj hj=>by
  have:=h.aR i j hi hj;rw[ae (.inl hi)]at this;exact this
 have e10:po=(List.range F.k).map λi=>(List.range (F.n.aB F.k)).map λg=>(List.range F.n.aq.toNat).map λr=>F.qq i g r:=oh h.lp λi hi=>oh (h.mV i hi) λg hg=>oh (h.qz i g hi hg) λr hr=>by
  have:=h.pop i g r hi hg hr;rw[ae (.inl hi)]at this;exact this
 rw[e1,e2,e3,e4,e5,e6,e7,e8,e9,e10];rfl
attribute [local simp] nX
open Classical in
noncomputable def pJ (Dm:Nat->Prop) (σ:List ag):Nat->Option ag:=λi=>if Dm i then al σ i else none
def kr (S:Lg) (N i:Nat):Prop:=i<N/\i ≠ 2/\i ≠ 3/\i ≠ S.pc/\∀e∈S.mo,e.2.2 ≠ i
theorem tR{Dm:Nat->Prop}{σ:List ag}{i:Nat}{B:ag}:pJ Dm σ i=some B↔Dm i/\al σ i=some B:=by
 unfold pJ;split
 ·rename_i h;simp[h]
 ·rename_i h;simp[h]
theorem LM.dom{S:Lg}{O:Nat->Option ag}{σ:List ag}(h:LM S O σ) (N:Nat):LM S (pJ (kr S N) σ) σ:=
 ⟨h.l,h.m,h.c,h.r,h.le,h.ok,h.nd,h.nb,h.Bl,h.xu,λi B hB=>⟨(tR.1 hB).2,(tR.1 hB).1.2⟩⟩
theorem LM.old{S:Lg}{O:Nat->Option ag}{σ:List ag}(h:LM S O σ){i:Nat}{B:ag}(hB:O i=some B):kr S σ.length i:=⟨dB (h.o i B hB).1,(h.o i B hB).2⟩
theorem LM.goD{T:Lg}{Dm:Nat->Prop}{σ τ:List ag}(h:LM T (pJ Dm σ) τ) (hd:∀i,Dm i->i<σ.length):(∀i B,Dm i->al σ i=some B->al τ i=some B)/\LM T (pJ Dm τ) τ:=by
 have h1:∀i B,Dm i->al σ i=some B->al τ i=some B:=λi B hi hB=>(h.o i B (tR.2 ⟨hi,hB⟩)).1;refine⟨h1,h.l,h.m,h.c,h.r,h.le,h.ok,h.nd,h.nb,h.Bl,h.xu,λi B hB=>?_⟩;obtain⟨hi,hB⟩:=tR.1 hB;have hl:=hd i hi;obtain⟨C,hC⟩:∃C,al σ i=some C:=⟨σ[i],by rw[bE];exact de hl⟩
 exact⟨hB,(h.o i C (tR.2 ⟨hi,hC⟩)).2⟩
theorem LM.Lt{T:Lg}{Dm:Nat->Prop}{σ:List ag}{j:Nat}{B:ag}(h:LM T (pJ Dm σ) σ) (hj:Dm j) (hl:j<σ.length):LM T (pJ Dm (az σ j B)) (az σ j B):=by
 obtain⟨C,hC⟩:∃C,al σ j=some C:=⟨σ[j],by rw[bE];exact de hl⟩
 have e:pJ Dm σ=mh (pJ Dm σ) j C:=by
  funext i
  unfold mh;split
  ·rename_i hi;subst hi;exact tR.2 ⟨hj,hC⟩
  ·rfl
 rw[e]at h;have:=h.tA B;refine this.sub λi D hD=>?_;obtain⟨hi,hD⟩:=tR.1 hD;unfold mh
 by_cases q:i=j
 ·subst q
  rw[cH hl]at hD;rw[ae rfl];exact hD
 ·rw[aP (Ne.symm q)]at hD
  rw[ab q];exact tR.2 ⟨hi,hD⟩
structure HI (F:p6) (S:Lg) (O0:Nat->Option ag) (Dm:Nat->Prop) (d b sm r0:Nat) (A:ak) (T:Lg) (τ:List ag):Prop where
 lm:LM T (pJ Dm τ) τ
 sa:bU S T
 as:AS A (λt=>fp (F.n.aB F.k) t+d) τ
 bx:al τ b=some ⟨some 10,[.int F.n.calls,.int F.n.aj,.int F.n.aq,.int ((F.n.aB F.k:Nat):Int),.int 0,.sl (1+d) F.k 0 F.k,.sl (6+F.n.aB F.k+d) F.k 0 F.k,.sl (7+F.n.aB F.k+d) F.k 0 F.k,.sl (9+F.n.aB F.k+d) F.k 0 F.k,.sl (10+F.n.aB F.k+d) F.k 0 F.k],.live⟩
 st:al τ sm=some (tQ S S.ws.length)
 rz:al τ r0=some ⟨some 10,[.int 0,.int 0,.int 0,.int 0,.int 0,.ah,.ah,.ah,.ah,.ah],.live⟩
 ol:∀i B,O0 i=some B->al τ i=some B
 ln:b<τ.length
structure HD (O0:Nat->Option ag) (Dm:Nat->Prop) (d b sm r0:Nat):Prop where
 fr:∀i,d<=i->i<=b->Dm i
 s:Dm sm/\sm<d
 r:Dm r0/\r0<d
 o:∀i B,O0 i=some B->Dm i/\i<d
 up:∀i,Dm i->i<=b
theorem HI.row{F:p6}{S:Lg}{O0:Nat->Option ag}{Dm:Nat->Prop}{d b sm r0:Nat}{A:ak}{T:Lg}{τ:List ag}(h:HI F S O0 Dm d b sm r0 A T τ) (hd:HD O0 Dm d b sm r0) (ho:S.Ok) (Wt:d<=b) (hA:∀t B,A.cont (λt=>fp (F.n.aB F.k) t+d) t=some B->fp (F.n.aB F.k) t+d<b){w:List Int}(hw:dC w) (hl:w.length<=10000) (hz:S.n.kp w S.cs=0):∃T' FT, L tf [.ptr 3 13 0,iL w] τ=some (.bS [.str (ff (S.row w)),.int 0],FT)/\HI F S O0 Dm d b sm r0 A T' FT :=by
 have AI:=h.sa.ok ho;obtain⟨r,FT, hc,T', Wn, gV, Af, rfl⟩:=dS (Lq h.lm AI.fits AI.cs AI.cl.1 AI.cl.2 w hw hl);rw[h.sa.1,h.sa.2.2,show Hi S.n S.cs w = .bS [.str (ff (S.row w)),.int 0]from ae hz]at hc;have T6:=h.ln;obtain⟨g1,g2⟩:=Wn.goD λi hi=>by have:=hd.up i hi;omega
 refine⟨T', FT, hc,g2,h.sa.trans gV, h.as.other λt B hB=>?_,g1 _ _ (hd.fr b Wt (bA _)) h.bx,g1 _ _ hd.s.1 h.st,g1 _ _ hd.r.1 h.rz,λi B hB=>g1 _ _ (hd.o i B hB).1 (h.ol i B hB),by omega⟩
 have h1:=hA t B hB;have h2:=h.as.has t B hB;rw[h2];exact g1 _ _ (hd.fr _ (by omega) (by omega)) h2
theorem HI.set{F:p6}{S:Lg}{O0:Nat->Option ag}{Dm:Nat->Prop}{d b sm r0:Nat}{A A' : ak}{T:Lg}{τ:List ag}(h:HI F S O0 Dm d b sm r0 A T τ) (hd:HD O0 Dm d b sm r0){j:Nat}{B:ag}(j0:d<=j) (j1:j<b) (ha:AS A' (λt=>fp (F.n.aB F.k) t+d) (az τ j B)):HI F S O0 Dm d b sm r0 A' T (az τ j B):=by
 have T6:=h.ln;have h1:=hd.s.2;have h2:=hd.r.2;exact⟨h.lm.Lt (hd.fr j j0 (by omega)) (by omega),h.sa,ha,by rw[aP (by omega)];exact h.bx,by rw[aP (by omega)];exact h.st,by rw[aP (by omega)];exact h.rz,λi C hC=>by rw[aP (by have:=(hd.o i C hC).2;omega)];exact h.ol i C hC,by rw[cg];exact T6⟩
theorem Hs.dom{F:p6}{a s J G R:Nat}{A:ak}(h:Hs F a s J G R A){p:Tn->Nat}{t:Tn}{B:ag}(hB:A.cont p t=some B):∃C,(F.n.dO F.k F.k).cont p t=some C:=by
 have LU:∀q,(A.tb q).length=F.k:=λq=>by
  cases q
  ·rw[show A.tb .cl=A.call from rfl,h.h6];exact mT .cl
  ·rw[show A.tb .ps=A.push from rfl,h.h7];exact mT .ps
  ·exact h.li
 cases t with
 |ac=>exact⟨_,rfl⟩
 |ls q=>
  refine⟨_,ab λe=>?_⟩;have h1:=mT (n:=F.n) (k:=F.k) (s:=F.k) q;rw[e]at h1;have:A.tb q=[]:=dW (by rw[LU,<-h1];rfl)
  have hB:(if A.tb q=[]then none else some _)=some B:=hB
  rw[ae this]at hB;simp at hB
 |po=>
  refine⟨_,ab λe=>?_⟩;have h1:=mU (n:=F.n) (k:=F.k) (s:=F.k);rw[e]at h1;have:A.pop=[]:=dW (by rw[h.lp,<-h1];rfl)
  have hB:(if A.pop=[]then none else some _)=some B:=hB
  rw[ae this]at hB;simp at hB
 |rw q i=>
  refine⟨_,ae ?_⟩;rw[mT];have hB:(if i<(A.tb q).length then some _ else none)=some B:=hB
  rw[LU]at hB;exact eU λe=>by rw[ab e]at hB;simp at hB
 |pr i=>
  refine⟨_,ae ?_⟩;rw[mU];have hB:(if i<A.pop.length then some _ else none)=some B:=hB
  rw[h.lp]at hB;exact eU λe=>by rw[ab e]at hB;simp at hB
 |pg i g=>
  have hB:(if i<A.pop.length/\g<(A.bI i).length then some _ else none)=some B:=hB
  have Wu:i<A.pop.length/\g<(A.bI i).length:=eU λe=>by rw[ab e]at hB;simp at hB
  rw[h.lp]at Wu;have h2:=Wu.2;rw[h.mV i Wu.1]at h2;refine⟨_,ae ⟨by rw[mU];exact Wu.1,?_⟩⟩
  rw[(kO Wu.1).2.2.2];simpa using h2
theorem aoY{F:p6}{d a s J G R:Nat}{A:ak}{σ:List ag}(h:AS A (λt=>fp (F.n.aB F.k) t+d) σ) (hT:Hs F a s J G R A) (hk:F.k ≠ 0):al σ (9+F.n.aB F.k+d)=some ⟨none,(List.range F.k).map λi=>iD (fp (F.n.aB F.k) (.rw .aR i)+d) F.n.aj.toNat,.live⟩:=by
 have:=h.has (.ls .aR) _ (ab λe=>by have:=hT.li;rw[show A.inner=[]from e]at this;exact hk this.symm)
 rw[show al σ (9+F.n.aB F.k+d)=_ from this];rw[show(A.tb .aR).length=F.k from hT.li]
 congr 2
 exact gk λi hi=>by rw[hT.qx i (cA.1 hi)]
theorem aoZ{F:p6}{d a s J G R:Nat}{A:ak}{σ:List ag}(h:AS A (λt=>fp (F.n.aB F.k) t+d) σ) (hT:Hs F a s J G R A) (hk:F.k ≠ 0):al σ (10+F.n.aB F.k+d)=some ⟨none,(List.range F.k).map λi=>iD (fp (F.n.aB F.k) (.pr i)+d) (F.n.aB F.k),.live⟩:=by
 have:=h.has .po _ (ab λe=>by have:=hT.lp;rw[e]at this;exact hk this.symm)
 rw[show al σ (10+F.n.aB F.k+d)=_ from this];rw[hT.lp]
 congr 2
 exact gk λi hi=>by rw[hT.mV i (cA.1 hi)]
theorem ao0{F:p6}{d a s J G R:Nat}{A:ak}{σ:List ag}(h:AS A (λt=>fp (F.n.aB F.k) t+d) σ) (hT:Hs F a s J G R A){i:Nat}(hi:i<F.k):al σ (fp (F.n.aB F.k) (.pr i)+d)=some ⟨none,(List.range (F.n.aB F.k)).map λg=>iD (fp (F.n.aB F.k) (.pg i g)+d) F.n.aq.toNat,.live⟩:=by
 have:=h.has (.pr i) _ (ae (by rw[hT.lp];exact hi))
 rw[this,hT.mV i hi]
 congr 2
 exact gk λg hg=>by rw[hT.qz i g hi (cA.1 hg)]
theorem ao1{n:ak}{xs ws:List (List Int)}{w:List Int}(hw:w∈ws){i:Nat}(hi:(i:Int)<n.aj):w ++ [n.calls+(i:Int)]∈n.iQ xs ws:=by
 unfold ak.iQ;refine rB.2 ⟨w,hw,eH.2 (.inl ?_)⟩;exact cU.2 ⟨i,cA.2 (by omega),rfl⟩
theorem ao2{n:ak}{xs ws:List (List Int)}{w x:List Int}(hw:w∈ws) (hx:x∈xs){c r:Nat}(hc:(c:Int)<n.calls) (hr:(r:Int)<n.aq):w++(c:Int)::(x ++ [n.calls+n.aj+(r:Int)])∈n.iQ xs ws:=by
 unfold ak.iQ;refine rB.2 ⟨w,hw,eH.2 (.inr ?_)⟩;refine rB.2 ⟨c,cA.2 (by omega),rB.2 ⟨x,hx,cU.2 ⟨r,cA.2 (by omega),rfl⟩⟩⟩
theorem ao3{n:ak}(hn:n.Ok){w:List Int}(hw:dC w){i:Nat}(hi:(i:Int)<n.aj):dC (w ++ [n.calls+(i:Int)]):=λx hx=>by
 have h1:=hn.calls;have h2:=hn.aj;rcases eH.1 hx with h|h
 ·exact hw x h
 ·simp at h;subst h;omega
theorem ao4{n:ak}(hn:n.Ok){w x:List Int}(hw:dC w) (hx:dC x){c r:Nat}(hc:(c:Int)<n.calls) (hr:(r:Int)<n.aq):dC (w++(c:Int)::(x ++ [n.calls+n.aj+(r:Int)])):=λy hy=>by
 have h1:=hn.calls;have h2:=hn.aj;have h3:=hn.aq;rcases eH.1 hy with h|h
 ·exact hw y h
 ·rcases cD.1 h with h|h
  ·omega
  ·rcases eH.1 h with h|h
   ·exact hx y h
   ·simp at h;omega
end Ab
namespace Ab
attribute [local simp] nX
def Lg.Gb (S:Lg) (w:List Int):Int:=((S.ws.map S.row).idxOf (S.row w):Nat)
def Lg.wd (S:Lg) (i:Nat):List Int:=ix S.ws (i:Int)
noncomputable def Lg.tg (S:Lg):p6:=⟨S.n,S.ws.length,λi=>(ix (S.row (S.wd i)) 0==43),λi j=>S.Gb (S.wd i ++ [S.n.calls+(j:Int)]),λi g r=>S.Gb (S.wd (g/S.n.calls.toNat)++((g%S.n.calls.toNat:Nat):Int)::(S.wd i ++ [S.n.calls+S.n.aj+(r:Int)]))⟩
theorem pK{S:Lg}:S.tg.k=S.ws.length:=rfl
theorem qF{S:Lg}:S.tg.n=S.n:=rfl
abbrev ku:ag:=⟨some 10,[.int 0,.int 0,.int 0,.int 0,.int 0,.ah,.ah,.ah,.ah,.ah],.live⟩
def HyP (S:Lg) (O:Nat->Option ag) (σ:List ag) (r:AV) (τ:List ag):Prop:=∃T p Dm,bU S T/\LM T (pJ Dm τ) τ/\(∀i B,O i=some B->Dm i/\al τ i=some B)/\AS S.tg.sj p τ/\(∀t B,S.tg.sj.cont p t=some B->Dm (p t)/\σ.length<p t/\p t<τ.length)/\r = .bS [.agg (S.tg.sj.bX p),.int 0]
theorem ao5{S:Lg}{O:Nat->Option ag}{σ:List ag}(h:LM S O σ) (ho:S.Ok) (GL:1<=S.ws.length) (hkc:S.ws.length*S.n.calls.toNat<=128) (he0:S.pX S.ws=0) (XL:∀w∈S.ws,S.n.kp w S.cs=0)
  (eZ:∀w∈S.n.iQ S.ws S.ws,S.n.kp w S.cs=0/\S.row w∈S.ws.map S.row):LX L Jq [.ptr 3 13 0] σ (HyP S O σ):=by
 refine aja rfl ?_;obtain⟨r,gr,hc,T,hs,hle,hr⟩:=dS (Wm (h.add ku) ho);obtain⟨hT,rfl⟩:LM T (mh (mh O σ.length ku) (σ ++ [ku]).length (tQ S S.ws.length)) gr/\r = .bS [.cQ (σ ++ [ku]).length,.int 0]:=by
  rcases hr with⟨_,hT,e⟩|⟨he,_,_⟩
  ·exact⟨hT,e⟩
  ·exact absurd he0 he
 have xV:=ho.wl;have hL:=hT.l;rw[hs.1,hs.2.1,hs.2.2]at hL;have AK:(σ ++ [ku]).length=σ.length+1:=by simp
 rw[AK]at hc hT hle;obtain⟨rv,Wv,hF,U0,hA⟩:=dS (UW S.n ho.ok S.ws.length (by omega) hkc)
 have U7:=aoX (F:=S.tg);have j5:S.tg.k ≠ 0:=by show S.ws.length ≠ 0;omega
 have gG:(S.n.dO S.ws.length S.ws.length).bX (fp (S.n.aB S.ws.length))=[.int S.n.calls,.int S.n.aj,.int S.n.aq,.int ((S.n.aB S.ws.length:Nat):Int),.int 0,.sl 1 S.ws.length 0 S.ws.length,.sl (6+S.n.aB S.ws.length) S.ws.length 0 S.ws.length,.sl (7+S.n.aB S.ws.length) S.ws.length 0 S.ws.length,.sl (9+S.n.aB S.ws.length) S.ws.length 0 S.ws.length,.sl (10+S.n.aB S.ws.length) S.ws.length 0 S.ws.length]:=U7.bX j5 _;rw[gG]at U0;subst U0;have U8 : L wU [.agg [.int S.n.calls,.int S.n.aj,.int S.n.aq,.int S.n.stack,.int S.n.start,.aE false (S.n.accept.map .bool),.aE false (S.n.call.map iL),.aE false (S.n.push.map iL),.aE false (S.n.inner.map iL),.aE false (S.n.pop.map cO)],.int S.ws.length] []=some (.agg [.int S.n.calls,.int S.n.aj,.int S.n.aq,.int ((S.n.aB S.ws.length:Nat):Int),.int 0,.sl 1 S.ws.length 0 S.ws.length,.sl (6+S.n.aB S.ws.length) S.ws.length 0 S.ws.length,.sl (7+S.n.aB S.ws.length) S.ws.length 0 S.ws.length,.sl (9+S.n.aB S.ws.length) S.ws.length 0 S.ws.length,.sl (10+S.n.aB S.ws.length) S.ws.length 0 S.ws.length],Wv):=hF;have KF:=hA.shift gr;obtain⟨fj,om⟩:∃s,gr++Wv.map (gR gr.length)=s:=⟨_,rfl⟩;have e1:∀Y:List ag,gr++(Wv.map (gR gr.length)++Y)=fj++Y:=λY=>by rw[<-om,iW]
 have e2:gr.length+Wv.length=fj.length:=by rw[<-om];simp
 have e3:(gr++Wv.map (gR gr.length)).length=fj.length:=by rw[om]
 have eb:∀Y:ag,al (fj ++ [Y]) fj.length=some Y:=λY=>iA;have es:∀Y Z:ag,az (fj ++ [Y]) fj.length Z=fj ++ [Z]:=λY Z=>Ap;have FI:AS (S.n.dO S.ws.length S.ws.length) (λt=>fp (S.n.aB S.ws.length) t+gr.length) fj:=by rw[<-om];exact KF
 have hLs:∀Y,al (fj++Y) 3=al gr 3:=λY=>by rw[<-om,iW,gq (dB hL)]
 simp[-ao,-List.map_replicate,hc,hL,ak.pV,U8, jA,kP,e1,e2,e3,eb,es,hLs]
 -- what is kept
 have XT:∀i B,(mh (mh O σ.length ku) (σ.length+1) (tQ S S.ws.length)) i=some B->kr T (fj.length+1) i/\i<gr.length:=λi B hB=>by
  have h1:=hT.old hB;exact⟨⟨by have:=h1.1;omega,h1.2⟩,h1.1⟩
 have hLo:∀i,O i=none\/i<σ.length:=λi=>by
  cases e:O i with
  |none=>exact .inl rfl
  |some B=>exact .inr (dB (h.o i B e).1)
 have hOO:∀i B,O i=some B->(mh (mh O σ.length ku) (σ.length+1) (tQ S S.ws.length)) i=some B:=λi B hB=>by
  have:=dB (h.o i B hB).1;unfold mh;rw[ab (by omega),ab (by omega)];exact hB
 have hOs:(mh (mh O σ.length ku) (σ.length+1) (tQ S S.ws.length)) (σ.length+1)=some (tQ S S.ws.length):=ae rfl;have hOr:(mh (mh O σ.length ku) (σ.length+1) (tQ S S.ws.length)) σ.length=some ku:=by
  unfold mh;rw[ab (by omega),ae rfl]
 have hD:HD O (kr T (fj.length+1)) gr.length fj.length (σ.length+1) σ.length:=by
  refine⟨λi i0 i1=>⟨by omega,?_,?_,?_,λe he=>?_⟩,XT _ _ hOs,XT _ _ hOr,λi B hB=>XT _ _ (hOO i B hB),λi hi=>by have:=hi.1;omega⟩
  ·have:=dB hT.m;omega
  ·have:=dB hT.l;omega
  ·have:=dB hT.c;omega
  ·have:=dB (hT.r e he);omega
 have hZ:∀{a s J G R:Nat} {A:ak},Hs S.tg a s J G R A->∀t B,A.cont (λt=>fp (S.tg.n.aB S.tg.k) t+gr.length) t=some B->fp (S.tg.n.aB S.tg.k) t+gr.length<fj.length:=λhs t B hB=>by
  obtain⟨C,hC⟩:=hs.dom hB;exact FI.lt hC
 have Wt:gr.length<=fj.length:=by omega
 have xQ:HI S.tg S O (kr T (fj.length+1)) gr.length fj.length (σ.length+1) σ.length (S.tg.n.dO S.tg.k S.tg.k) T (fj ++ [⟨some 10,[.int S.n.calls,.int S.n.aj,.int S.n.aq,.int ((S.n.aB S.ws.length:Nat):Int),.int 0,.sl (1+gr.length) S.ws.length 0 S.ws.length,.sl (6+S.n.aB S.ws.length+gr.length) S.ws.length 0 S.ws.length,.sl (7+S.n.aB S.ws.length+gr.length) S.ws.length 0 S.ws.length,.sl (9+S.n.aB S.ws.length+gr.length) S.ws.length 0 S.ws.length,.sl (10+S.n.aB S.ws.length+gr.length) S.ws.length 0 S.ws.length],.live⟩]):=by
  have hex:∀i B,al gr i=some B->∀Y,al (fj++Y) i=some B:=λi B hB Y=>by
   rw[<-om,iW,gq (dB hB)];exact hB
  exact⟨(hT.ext λi B hB=>hex i B hB _).dom _,hs,FI.other λt B hB=>gq (FI.lt hB),iA,hex _ _ (hT.o _ _ hOs).1 _,hex _ _ (hT.o _ _ hOr).1 _,λi B hB=>hex _ _ (hT.o _ _ (hOO i B hB)).1 _,by simp⟩
 refine bu (λq:Nat×ak×Lg×List ag=>[(3,.int q.1)]) (λq=>q.2.2.2) (λq=>q.1<=S.ws.length/\Hs S.tg q.1 q.1 0 0 0 q.2.1/\HI S.tg S O (kr T (fj.length+1)) gr.length fj.length (σ.length+1) σ.length q.2.1 q.2.2.1 q.2.2.2) (λq=>S.ws.length-q.1) (0,S.tg.n.dO S.tg.k S.tg.k,T,_) (by simp[bY]) ⟨by simp,U7,xQ⟩ ?_
 clear xQ es eb e1 e2 e3 hLs hF U8 KF hL hc XT hOO hOs hOr;rintro⟨s,A,U,υ⟩ ⟨s0,hH,hI⟩;dsimp only at s0 hH hI ⊢
 by_cases gB:s<S.ws.length
 ·have Bm:=aU (l:=S.ws) (n:=(s:Int)) (by omega) (by omega)
  obtain⟨U1,υ1,r9,vO⟩:=hI.row hD ho Wt (hZ hH) (ho.ws _ Bm).1 (by have:=(ho.ws _ Bm).2;omega) (XL _ Bm)
  have Ge:∀K,si1 (.str (ff (S.row (ix S.ws (s:Int))))) (.int 0) K=K (.ik 4 (ix (S.row (ix S.ws (s:Int))) 0)):=λK=>by
   have hlr:(S.row (ix S.ws (s:Int))).length=S.cs.length:=by simp[Lg.row,ak.kq]
   have arz:=ho.cl.1;have h0:0<(S.row (ix S.ws (s:Int))).length:=by omega
   have hb:=vb (n:=S.n) (cs:=S.cs) (w:=ix S.ws (s:Int)) _ (aU (l:=S.row (ix S.ws (s:Int))) (n:=0) (by omega) (by omega))
   rw[IF];have e:(ff (S.row (ix S.ws (s:Int))))[(0:Int).toNat]? = some (UInt8.ofNat (ix (S.row (ix S.ws (s:Int))) 0).toNat):=by
    unfold ff;rw[iv];have:(S.row (ix S.ws (s:Int)))[(0:Int).toNat]? = some (ix (S.row (ix S.ws (s:Int))) 0):=by
     rw[show((0:Int))=((0:Nat):Int)from rfl,aT h0];exact de h0
    rw[this];rfl
   rw[e];simp only[aQ,Int.le_refl,true_and];rw[Wa hb.1 hb.2]
  have mL:=vO.bx;have hL1:=vO.lm.l;rw[vO.sa.1,vO.sa.2.1,vO.sa.2.2]at hL1;have xj:=vO.as.has .ac _ rfl;rw[show fp (S.tg.n.aB S.tg.k) .ac+gr.length=1+gr.length from rfl]at xj;have U9:=hH.la;simp only[pK,qF]at mL U9;have ao6:=vO.ln;have yc:∀B,al (az υ1 (1+gr.length) B) 3=al υ1 3:=λB=>by
   have:=dB hT.l;exact aP (by omega)
  simp[-ao,-List.map_replicate,gB,r9,↓Ge,mL,xj,U9,yc,hL1,ak.pV];have jD:1+gr.length<fj.length:=hZ hH .ac _ rfl;have hH1:=hH.mQ (by rw[pK];exact gB)
  have ud:=vO.set hD (j:=1+gr.length) (by omega) jD (vO.as.mQ (l:=A.accept.set s (S.tg.fa s)))
  rw[List.map_set]at ud;have lL:=ho.ok.calls;have Xl:=ho.ok.aj;have GH:=ho.ok.aq;have hwS:=ho.ws _ Bm;have Be:∀v,cL (qQ 0 (S.ws.map S.row)) (.str (ff (S.row v)))=some (if S.row v∈S.ws.map S.row then some (.int (S.Gb v))else none):=λv=>by
   have:=wX (l:=S.row v) vb 0 (S.ws.map S.row) λx hx=>by
    obtain⟨w,_,rfl⟩:=cU.1 hx;exact vb
   rw[this];simp[Lg.Gb]
  have qR:∀x,bg 1 (.str x)=true:=λ_=>rfl;have Wx:tQ S S.ws.length=⟨some 0,[],.map (qQ 0 (S.ws.map S.row))⟩:=by
   unfold tQ;rw[gu (bA _)]
  have e2:ix (List.range S.ws.length) (s:Int)=s:=by rw[aT (by simpa using gB)];simp
  have e3:ix (List.range S.ws.length) (0+(s:Int)*1)=s:=by rw[<-e2];congr 1;omega
  refine bu (λq:Nat×ak×Lg×List ag=>[(11,.int q.1)]) (λq=>q.2.2.2) (λq=>q.1<=S.n.aj.toNat/\Hs S.tg (s+1) s q.1 0 0 q.2.1/\HI S.tg S O (kr T (fj.length+1)) gr.length fj.length (σ.length+1) σ.length q.2.1 q.2.2.1 q.2.2.2) (λq=>S.n.aj.toNat-q.1) (0,_,U1,_) (by simp[bY];rfl) ⟨by simp,hH1,ud⟩ ?_
  clear ud vO hL1 yc mL xj U9 ao6 r9 hI hH hH1;rintro⟨j,A2,U2,υ2⟩ ⟨j0,yd,ud⟩;dsimp only at j0 yd ud ⊢
  by_cases hj:j<S.n.aj.toNat
  ·have yR:(j:Int)<S.n.aj:=by omega
   have yQ:=bH yR;have XP:=Wg ud.lm (by rw[ud.sa.1];exact ho.ok) (ix S.ws (s:Int)) j (by omega) (by rw[ud.sa.1];exact yR) (by omega)
   rw[ud.sa.1]at XP;have hm:=eZ _ (ao1 (xs:=S.ws) Bm yR);obtain⟨U3,υ3,Hn,vc⟩:=ud.row hD ho Wt (hZ yd) (ao3 ho.ok hwS.1 yR) (by simp;omega) hm.1
   have AL:=Be (ix S.ws (s:Int) ++ [S.n.calls+(j:Int)]);rw[ae hm.2]at AL;have XQ:=vc.bx;have hs3:=vc.st;rw[Wx]at hs3;have xO:=aoY vc.as yd j5;have rO:=vc.as.has (.rw .aR s) _ (ae (by rw[show(A2.tb .aR).length=S.ws.length from yd.li];exact gB))
   have iC:=yd.qx s gB;simp only[pK,qF]at XQ xO rO iC;generalize hV:ix S.ws (s:Int) ++ [S.n.calls+(j:Int)]=V at *;simp[-ao,-List.map_replicate,yQ,XP,hV,Hn,XQ,hs3,xO,gB,e2,e3,rO,kn,AL,qR];have mN:=hZ yd (.rw .aR s) _ (ae (by rw[show(A2.tb .aR).length=S.ws.length from yd.li];exact gB))
   have AY:S.tg.fi s j=S.Gb V:=by
    show S.Gb (S.wd s ++ [S.n.calls+(j:Int)])=_;rw[<-hV];rfl
   have Bn:=vc.set hD (j:=fp (S.tg.n.aB S.tg.k) (.rw .aR s)+gr.length) (by omega) mN (vc.as.mR (by rw[yd.li];exact gB) (l:=(A2.cF .aR s).set j (S.tg.fi s j)) (by simp))
   have Lu:=yd.mR (by rw[pK];exact gB) (by rw[qF];exact hj)
   refine⟨by omega,iC,by omega,by omega,aX (j+1,_,U3,_) (by simp) ?_ ⟨by dsimp only;omega,Lu,Bn⟩ (by dsimp only;omega)⟩
   dsimp only;rw[Zb,List.map_set,AY];rfl
  ·have yQ:=gl (show ¬(j:Int)<S.n.aj by omega)
   have ej:j=S.tg.n.aj.toNat:=by rw[qF];omega
   rw[ej]at yd;have yc:=ud.lm.l;rw[ud.sa.1,ud.sa.2.1,ud.sa.2.2]at yc;simp[-ao,-List.map_replicate,yQ,yc,ak.pV];refine bu (λq:Nat×ak×Lg×List ag=>[(15,.int q.1)]) (λq=>q.2.2.2) (λq=>q.1<=S.ws.length/\Hs S.tg (s+1) s S.tg.n.aj.toNat (q.1*S.tg.n.calls.toNat) 0 q.2.1/\HI S.tg S O (kr T (fj.length+1)) gr.length fj.length (σ.length+1) σ.length q.2.1 q.2.2.1 q.2.2.2) (λq=>S.ws.length-q.1) (0,A2,U2,υ2) (by simp[bY]) ⟨by simp,by simpa using yd,ud⟩ ?_
   clear ud yc yd;rintro⟨p,A3,U3,υ3⟩ ⟨p0,Wy,vc⟩;dsimp only at p0 Wy vc ⊢
   by_cases hp:p<S.ws.length
   ·have hwp:=aU (l:=S.ws) (n:=(p:Int)) (by omega) (by omega)
    have hwP:=ho.ws _ hwp;have hL3:=vc.lm.l;rw[vc.sa.1,vc.sa.2.1,vc.sa.2.2]at hL3;simp[-ao,-List.map_replicate,hp,hL3,ak.pV];refine bu (λq:Nat×ak×Lg×List ag=>[(18,.int q.1)]) (λq=>q.2.2.2) (λq=>q.1<=S.n.calls.toNat/\Hs S.tg (s+1) s S.tg.n.aj.toNat (p*S.tg.n.calls.toNat+q.1) 0 q.2.1/\HI S.tg S O (kr T (fj.length+1)) gr.length fj.length (σ.length+1) σ.length q.2.1 q.2.2.1 q.2.2.2) (λq=>S.n.calls.toNat-q.1) (0,A3,U3,υ3) (by simp[bY]) ⟨by simp,Wy,vc⟩ ?_
    clear vc hL3 Wy;rintro⟨c,A4,U4,υ4⟩ ⟨c0,Lu,Bn⟩;dsimp only at c0 Lu Bn ⊢
    by_cases hc:c<S.n.calls.toNat
    ·have G4:(c:Int)<S.n.calls:=by omega
     have Hj:=bH G4;have hL4:=Bn.lm.l;rw[Bn.sa.1,Bn.sa.2.1,Bn.sa.2.2]at hL4;simp[-ao,-List.map_replicate,Hj,hL4,ak.pV];refine bu (λq:Nat×ak×Lg×List ag=>[(20,.int q.1)]) (λq=>q.2.2.2) (λq=>q.1<=S.n.aq.toNat/\Hs S.tg (s+1) s S.tg.n.aj.toNat (p*S.tg.n.calls.toNat+c) q.1 q.2.1/\HI S.tg S O (kr T (fj.length+1)) gr.length fj.length (σ.length+1) σ.length q.2.1 q.2.2.1 q.2.2.2) (λq=>S.n.aq.toNat-q.1) (0,A4,U4,υ4) (by simp[bY]) ⟨by simp,Lu,Bn⟩ ?_
     clear Bn hL4 Lu;rintro⟨r,A5,U5,υ5⟩ ⟨r0,ve,Ho⟩;dsimp only at r0 ve Ho ⊢
     by_cases hr:r<S.n.aq.toNat
     ·have pQ:(r:Int)<S.n.aq:=by omega
      have GK:=bH pQ;have qS:=Wh Ho.lm (by rw[Ho.sa.1];exact ho.ok) (ix S.ws (p:Int)) (ix S.ws (s:Int)) c r (by omega) (by rw[Ho.sa.1];exact G4) (by omega) (by rw[Ho.sa.1];exact pQ) (by omega) (by omega)
      rw[Ho.sa.1]at qS;have hm:=eZ _ (ao2 (xs:=S.ws) hwp Bm G4 pQ);obtain⟨U6,υ6,hc6,AM⟩:=Ho.row hD ho Wt (hZ ve) (ao4 ho.ok hwP.1 hwS.1 G4 pQ) (by simp;omega) hm.1
      have AL:=Be (ix S.ws (p:Int)++(c:Int)::(ix S.ws (s:Int) ++ [S.n.calls+S.n.aj+(r:Int)]));rw[ae hm.2]at AL;have hb6:=AM.bx;have hs6:=AM.st;have hL6:=AM.lm.l;rw[AM.sa.1,AM.sa.2.1,AM.sa.2.2]at hL6;rw[Wx]at hs6;have G0:=aoZ AM.as ve j5;have FJ:=ao0 AM.as ve (i:=s) (by rw[pK];exact gB)
      have hG:p*S.tg.n.calls.toNat+c<S.tg.n.aB S.tg.k:=by
       rw[qF,pK];have h1:p*S.n.calls.toNat+S.n.calls.toNat<=S.ws.length*S.n.calls.toNat:=by rw[<-Nat.succ_mul];exact jT _ (by omega)
       show _<max 1 (S.ws.length*S.n.calls.toNat);omega
      have hGi:(p:Int)*S.n.calls+(c:Int)=((p*S.n.calls.toNat+c:Nat):Int):=by rw[Int.natCast_add,oE];congr 2;omega
      have Kb:S.n.aB S.ws.length<=128:=by show max 1 (S.ws.length*S.n.calls.toNat)<=128;omega
      have XC:=AM.as.has (.pg s (p*S.tg.n.calls.toNat+c)) _ (ae ⟨by rw[ve.lp];exact gB,by rw[ve.mV s gB];exact hG⟩)
      have hp6:=hZ ve (.pg s (p*S.tg.n.calls.toNat+c)) _ (ae ⟨by rw[ve.lp];exact gB,by rw[ve.mV s gB];exact hG⟩)
      have Wz:=ve.qz s _ gB hG;have w5:0<=(p:Int)*S.n.calls/\(p:Int)*S.n.calls<=128:=by
       have e:(p:Int)*S.n.calls=((p*S.n.calls.toNat:Nat):Int):=by rw[oE];congr 1;omega
       have:p*S.tg.n.calls.toNat=p*S.n.calls.toNat:=rfl;have:S.tg.n.aB S.tg.k=S.n.aB S.ws.length:=rfl;omega
      have XD:S.tg.qq s (p*S.tg.n.calls.toNat+c) r=S.Gb (ix S.ws (p:Int)++(c:Int)::(ix S.ws (s:Int) ++ [S.n.calls+S.n.aj+(r:Int)])):=by
       unfold p6.qq;rw[qF,ab (by omega)]
       show S.Gb (S.wd ((p*S.n.calls.toNat+c)/S.n.calls.toNat)++(((p*S.n.calls.toNat+c)%S.n.calls.toNat:Nat):Int)::(S.wd s ++ [S.n.calls+S.n.aj+(r:Int)]))=_;rw[show(p*S.n.calls.toNat+c)/S.n.calls.toNat=p from by rw[Nat.mul_comm,Nat.mul_add_div (by omega),Nat.div_eq_of_lt hc,Nat.add_zero],show(p*S.n.calls.toNat+c)%S.n.calls.toNat=c from by rw[Nat.mul_comm,Nat.mul_add_mod,Nat.mod_eq_of_lt hc]]
       rfl
      have hH7:=ve.mS (by rw[pK];exact gB) hG (R:=r) (by rw[qF];exact hr)
      have hI7:=AM.set hD (j:=fp (S.tg.n.aB S.tg.k) (.pg s (p*S.tg.n.calls.toNat+c))+gr.length) (by omega) hp6 (AM.as.mS (by rw[ve.lp];exact gB) (by rw[ve.mV s gB];exact hG) (l:=(A5.cK s (p*S.tg.n.calls.toNat+c)).set r (S.tg.qq s (p*S.tg.n.calls.toNat+c) r)) (by simp))
      generalize hV:ix S.ws (p:Int)++(c:Int)::(ix S.ws (s:Int) ++ [S.n.calls+S.n.aj+(r:Int)])=V at *;simp only[pK,qF]at hb6 G0 FJ XC Wz hG hp6;have f2:ix (List.range (S.n.aB S.ws.length)) ((p*S.n.calls.toNat+c:Nat):Int)=p*S.n.calls.toNat+c:=by rw[aT (by simpa using hG)];simp
      rw[show S.tg.n.calls.toNat=S.n.calls.toNat from rfl]at hH7 hI7 XD;generalize hgd:p*S.n.calls.toNat+c=g at *;have f3:ix (List.range (S.n.aB S.ws.length)) (0+(g:Int)*1)=g:=by rw[<-f2];congr 1;rw[f2];omega
      simp[-ao,-List.map_replicate,GK,qS,hV,hc6,hb6,hs6,hL6,ak.pV,G0,gB,e2,e3,FJ,hGi,f2,f3,hG,XC,AL,qR];refine⟨by omega,by omega,by omega,Wz,by omega,by omega,aX (r+1,_,U6,_) (by simp) ?_ ⟨by dsimp only;omega,?_,hI7⟩ (by dsimp only;omega)⟩
      ·dsimp only
       rw[Zb,List.map_set,XD];rfl
      ·subst hgd
       exact hH7
     ·have GK:=gl (show ¬(r:Int)<S.n.aq by omega)
      have er:r=S.tg.n.aq.toNat:=by rw[qF];omega
      rw[er]at ve;simp[-ao,-List.map_replicate,GK];exact⟨by omega,aX (c+1,A5,U5,υ5) (by simp) rfl ⟨by dsimp only;omega,ve.Aq,Ho⟩ (by dsimp only;omega)⟩
    ·have Hj:=gl (show ¬(c:Int)<S.n.calls by omega)
     have ec:c=S.n.calls.toNat:=by omega
     have epc:p*S.tg.n.calls.toNat+c=(p+1)*S.tg.n.calls.toNat:=by rw[ec,fC,Nat.one_mul];rfl
     rw[epc]at Lu;simp[-ao,-List.map_replicate,Hj];exact⟨by omega,aX (p+1,A4,U4,υ4) (by simp) rfl ⟨by dsimp only;omega,Lu,Bn⟩ (by dsimp only;omega)⟩
   ·have ep:p=S.tg.k:=by rw[pK];omega
    rw[ep]at Wy;simp[-ao,-List.map_replicate,hp];exact⟨by omega,aX (s+1,A3,U3,υ3) (by simp) rfl ⟨by dsimp only;omega,Wy.Ar,vc⟩ (by dsimp only;omega)⟩
 ·have es:s=S.tg.k:=by rw[pK];omega
  rw[es]at hH;have ni:=hI.rz;have xR:=hI.bx;have iC:σ.length<υ.length:=dB ni;have iy:∀B:ag,al (az υ σ.length B) σ.length=some B:=λB=>cH iC;have vE:=λ(ce:CE) (c0 c1 c2 c3 c4 c5 c6 c7 c8 c9:AV)=>rT (ce:=ce) (σ:=az υ σ.length ⟨some 10,[c0,c1,c2,c3,c4,c5,c6,c7,c8,c9],.live⟩) (n:=σ.length) (iy _);have ao7:=hH.fin;subst ao7;have jy:=hH.bX j5 (λt=>fp (S.tg.n.aB S.tg.k) t+gr.length);have T6:=hI.ln;have AR:=hD.r.2;have b8:∀t C,S.tg.sj.cont (λt=>fp (S.tg.n.aB S.tg.k) t+gr.length) t=some C->gr.length<=fp (S.tg.n.aB S.tg.k) t+gr.length/\fp (S.tg.n.aB S.tg.k) t+gr.length<fj.length:=λt C hC=>⟨by omega,hZ hH t C hC⟩
  simp only[pK,qF]at xR;simp[-ao,-Ce,gB,xR,ni,iy,vE];refine⟨U,λt=>fp (S.tg.n.aB S.tg.k) t+gr.length,kr T (fj.length+1),hI.sa,hI.lm.Lt hD.r.1 iC,λi B hB=>⟨(hD.o i B hB).1,?_⟩,hI.as.other λt C hC=>aP (by have:=(b8 t C hC).1;omega),λt C hC=>?_,?_⟩
  ·have:=dB (h.o i B hB).1
   rw[aP (by omega)];exact hI.ol i B hB
  ·obtain⟨h1,h2⟩:=b8 t C hC
   refine⟨hD.fr _ h1 (Nat.le_of_lt h2),?_,?_⟩
   ·show σ.length<fp (S.tg.n.aB S.tg.k) t+gr.length
    omega
   ·rw[cg]
    show fp (S.tg.n.aB S.tg.k) t+gr.length<_;omega
  ·rw[jy];rfl
end Ab
namespace Ab
attribute [local simp] nX
structure Lg.Cl (E:Lg):Prop where
 ok:E.Ok
 w1:1<=E.ws.length
 kc:E.ws.length*E.n.calls.toNat<=128
 e0:E.pX E.ws=0
 ws:∀w∈E.ws,E.n.kp w E.cs=0
 cl:∀w∈E.n.iQ E.ws E.ws,E.n.kp w E.cs=0/\E.row w∈E.ws.map E.row
theorem bU.tg{S T:Lg}(h:bU S T):T.tg=S.tg:=by
 unfold Lg.tg Lg.Gb Lg.wd;simp only[h.row,h.1,h.2.1]
theorem bU.cl{S T:Lg}(h:bU S T) (g:S.Cl):T.Cl:=⟨h.ok g.ok,by rw[h.2.1];exact g.w1,by rw[h.1,h.2.1];exact g.kc,by rw[h.2.1,h.pX];exact g.e0,by rw[h.1,h.2.1,h.2.2];exact g.ws,by rw[h.1,h.2.1,h.2.2,h.row];exact g.cl⟩
theorem ao8{S E:Lg}{O:Nat->Option ag}{σ:List ag}{k:Nat}(h:LM S O σ) (hc:Cm E k S) (hE:E.Cl):LX L I9 [.ptr 3 13 0] σ (HyP E O σ):=by
 refine aiE rfl ?_;obtain⟨r,gr,r9,T,hs,hT,hle,rfl⟩:=dS (aoV (h.add ku) hc);have Ga:=hs.symm.cl hE;obtain⟨r,Bb,nm,U,p,Dm,qX,hU,hO,hA,hp,rfl⟩:=dS (ao5 hT Ga.ok Ga.w1 Ga.kc Ga.e0 Ga.ws Ga.cl);rw[show T.tg=E.tg from hs.symm.tg]at *;have AK:(σ ++ [ku]).length=σ.length+1:=by simp
 rw[AK]at hle;have hz:=hO σ.length ku (by unfold mh;rw[ae rfl])
 have r5:σ.length<Bb.length:=dB hz.2;have uk:=hz.2;have jy:E.tg.sj.bX p=[.int E.tg.sj.calls,.int E.tg.sj.aj,.int E.tg.sj.aq,.int E.tg.sj.stack,.int E.tg.sj.start,iD (p .ac) E.tg.sj.accept.length,cT (p (.ls .cl)) E.tg.sj.call.length,cT (p (.ls .ps)) E.tg.sj.push.length,cT (p (.ls .aR)) E.tg.sj.inner.length,cT (p .po) E.tg.sj.pop.length]:=rfl;rw[jy]at nm;have UY:∀b m:Nat,dL (cT b m)=true:=λb m=>by unfold cT;split<;>rfl
 have iy:∀B:ag,al (az Bb σ.length B) σ.length=some B:=λB=>cH r5;have vE:=λ(ce:CE) (c0 c1 c2 c3 c4 c5 c6 c7 c8 c9:AV)=>rT (ce:=ce) (σ:=az Bb σ.length ⟨some 10,[c0,c1,c2,c3,c4,c5,c6,c7,c8,c9],.live⟩) (n:=σ.length) (iy _);generalize Lv:E.tg.sj=A at *;simp[-ao,-Ce,r9,nm,uk,UY,iy,vE];refine⟨U,p,Dm,hs.symm.trans qX,hU.Lt hz.1 r5,λi B hB=>?_,?_,λt B hB=>?_,?_⟩
 ·have hi:=dB (h.o i B hB).1
  have:=hO i B (by unfold mh;rw[ab (by omega)];exact hB)
  exact⟨this.1,by rw[aP (by omega)];exact this.2⟩
 ·rw[Lv]
  exact hA.other λt B hB=>aP (by have:=(hp t B hB).2.1;omega)
 ·rw[Lv]at hB
  obtain⟨h1,h2,h3⟩:=hp t B hB;exact⟨h1,by omega,by rw[cg];exact h3⟩
 ·rw[Lv,jy]
end Ab
namespace Ab
def p7 (ws:List (List Int)):Lg:=⟨dw,ws,[([],[])],[],1⟩
theorem ao9:(p7 [[]]).vW = .bS [iL [0,3],.bool true,.int 0]:=by kernel_rfl
theorem apa:(p7 [[],[0,3]]).vW = .bS [.ah,.bool false,.int 0]:=by kernel_rfl
theorem WA:(p7 [[]]).put [0,3]=p7 [[],[0,3]]:=by kernel_rfl
theorem WB:(p7 [[],[0,3]]).tg.sj=rX:=by kernel_rfl
theorem Gc:dw.fits:=La u7 ⟨by decide,by decide,by decide,by decide⟩
theorem Hp:∀c∈[(([]:List Int),([]:List Int))],F7 c:=λc hc=>by
 simp at hc;subst hc;exact⟨by simp,by simp,by simp⟩
theorem apb:(p7 [[]]).Ok:=⟨u7,Gc,Hp,by decide,λw hw=>by simp[p7]at hw;subst hw;exact⟨λx hx=>by simp at hx,by simp⟩,by decide,by decide⟩
theorem WC:(p7 [[],[0,3]]).Ok:=⟨u7,Gc,Hp,by decide,λw hw=>by
  simp[p7]at hw;rcases hw with rfl|rfl
  ·exact⟨λx hx=>by simp at hx,by simp⟩
  ·exact⟨λx hx=>by simp at hx;omega,by simp⟩,by decide,by decide⟩
def WD (l:List (List Int)):Bool:=l.all λw=>(w.all λx=>decide (0<=x/\x<=255))&&decide (w.length<=10000)
theorem apc{l:List (List Int)}(h:WD l=true):∀w∈l,dC w/\w.length<=10000:=λw hw=>by
 have:=rA.1 h w hw;rw[aD]at this;refine⟨λx hx=>?_,of_decide_eq_true this.2⟩;exact of_decide_eq_true (rA.1 this.1 x hx)
theorem apd{l:List (List Int)}:(gC l).length<=l.length:=by
 show(fQ (fH aW l)).length<=_;have:=TS (fH aW l);rw[Fl]at this;exact this
theorem WE (ws:List (List Int)) (ho:(p7 ws).Ok) (h1:((dw.iQ ws ws).length:Int)<=1000000) (h2:WD (dw.iQ ws ws)=true):(p7 ws).Fit:=by
 have h3:=apc h2;refine⟨ho,h1,λw hw=>by have:=(h3 w hw).2;omega,λw hw=>h3 w (amA.1 hw),?_⟩
 have:(gC (dw.iQ ws ws)).length<=(dw.iQ ws ws).length:=apd;show(gC (dw.iQ ws ws)).length<=1000000;omega
theorem ape:Cm (p7 [[],[0,3]]) 1 (p7 [[]]):=by
 refine .step 0 _ [0,3] (WE _ apb (by decide) (by decide)) ao9 (by decide) (by decide) (by decide) ?_
 rw[WA];exact .done _ (WE _ WC (by decide) (by decide)) apa ⟨rfl,rfl,rfl⟩
theorem apf:(p7 [[],[0,3]]).Cl:=⟨WC,by decide,by decide,by decide,by decide,by decide⟩
end Ab
