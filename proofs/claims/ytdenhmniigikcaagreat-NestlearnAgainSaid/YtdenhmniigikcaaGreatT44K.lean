/- The learner's missing word; and what it leans on. Condition: none. -/
import Derived.Test.YtdenhmniigikcaaGreatT44D
import Derived.KernelRfl
set_option linter.all false
set_option maxRecDepth 100000
set_option maxHeartbeats 8000000
namespace Ab
attribute [local simp] nR
def Lg.pE (S:Lg):List (List Int)->AV
 | []=>.bQ [.ah,.bool false,.int 0]
 |w::l=>if S.n.ko w S.cs ≠ 0 then .bQ [.ah,.bool false,.int (S.n.ko w S.cs)]else if S.row w∈S.ws.map S.row then S.pE l else .bQ [iL w,.bool true,.int 0]
def Lg.vS (S:Lg):AV:=if S.pR S.ws ≠ 0 then .bQ [.ah,.bool false,.int (S.pR S.ws)]else S.pE (gz (S.n.iM S.ws S.ws))
theorem VN{S:Lg}{O:Nat->Option ag}{σ:List ag}(h:LM S O σ) (ho:S.Ok) (hz:((S.n.iM S.ws S.ws).length:Int)<=1000000) (hf:pw (S.n.iM S.ws S.ws)) (hx:∀w∈gz (S.n.iM S.ws S.ws),dA w/\w.length<=10000) (Wg:(gz (S.n.iM S.ws S.ws)).length<=1000000):LX L IM [.ptr 3 13 0] σ (λr τ=>∃T,bP S T/\LM T O τ/\σ.length<=τ.length/\r=S.vS):=by
 refine air rfl ?_;obtain⟨r,τ,hc,T,hs,hle,hr⟩:=dS (VH h ho);rcases hr with⟨he,hT,rfl⟩|⟨he,hT,rfl⟩
 ·have Av:=hs.ok ho
  have KG:S.vS=S.pE (gz (S.n.iM S.ws S.ws)):=by unfold Lg.vS;rw[aa (by simp[he])]
  have e1:T.n.iM T.ws T.ws=S.n.iM S.ws S.ws:=by rw[hs.1,hs.2.1]
  obtain⟨r,AT,p9,A0,BA,rfl⟩:=dS (anK hT Av (by rw[e1];exact hz) (by rw[e1];exact hf))
  rw[e1]at p9;generalize gz (S.n.iM S.ws S.ws)=E at *;simp[-al,hc,p9];refine bC (λq:Nat×Lg×List ag=>[(2,.int q.1)]) (λq=>q.2.2) (λq=>q.1<=E.length/\LM q.2.1 (mf O σ.length (tM S S.ws.length)) q.2.2/\bP S q.2.1/\σ.length<=q.2.2.length/\S.pE E=S.pE (E.drop q.1)) (λq=>E.length-q.1) (0,T,AT) (by simp[bT]) ⟨by simp,A0,hs,by dsimp only;omega,rfl⟩ ?_
  rintro⟨k,U,υ⟩ ⟨k0,hU,qT,Xc,sQ⟩;dsimp only at k0 hU qT Xc sQ ⊢
  by_cases hk:k<E.length
  ·have Xd:=qT.ok ho
   have A9:=hx _ (aZ (l:=E) (n:=(k:Int)) (by omega) (by omega))
   obtain⟨r,υ', GR,U', hU', gP, ct, rfl⟩:=dS (KE hU Xd.fits Xd.cs Xd.cl.1 Xd.cl.2 (ix E (k:Int)) A9.1 (by omega))
   rw[qT.1,qT.2.2]at GR;have xz:=qT.trans gP;have hd:E.drop k=ix E (k:Int)::E.drop (k+1):=by rw[aS hk,List.getElem_cons_drop]
   rw[hd]at sQ;have sR:LM U' O υ' :=hU'.sub λi B hB=>by
    have:=dz (h.o i B hB).1;unfold mf;rw[aa (by omega)]
    exact hB
   by_cases ug:S.n.ko (ix E (k:Int)) S.cs=0
   ·rw[show GL S.n S.cs (ix E (k:Int)) = .bQ [.str (fe (S.row (ix E (k:Int)))),.int 0]from ab ug]at GR
    have hB:=(hU'.o σ.length _ (ab rfl)).1;have hK:∀x∈S.ws.map S.row,dA x:=λx hx=>by
     obtain⟨w,_,rfl⟩:=cR.1 hx;exact u4
    have AX:=wR (l:=S.row (ix E (k:Int))) u4 0 _ hK;have qN:∀x,bg 1 (.str x)=true:=λ_=>rfl;have bR:tM S S.ws.length=⟨some 0,[],.map (qM 0 (S.ws.map S.row))⟩:=by
     unfold tM;rw[gl (bw _)]
    rw[bR]at hB
    by_cases fc:S.row (ix E (k:Int))∈S.ws.map S.row
    ·rw[ab fc]at AX
     simp[-al,-List.mem_map,hk,GR,hB,AX,qN];refine⟨by omega,ba (k+1,U', υ') (by simp) rfl ⟨by dsimp only;omega,hU', xz,by dsimp only;omega,?_⟩ (by dsimp only;omega)⟩
     dsimp only;rw[sQ];show(if _ then _ else _)=_
     rw[aa (by simp[ug]),ab fc]
    ·rw[aa fc]at AX
     simp[-al,-List.mem_map,hk,GR,hB,AX,qN];refine⟨U', xz,sR,by omega,?_⟩
     rw[KG,sQ];show _=(if _ then _ else _)
     rw[aa (by simp[ug]),aa fc]
   ·rw[show GL S.n S.cs (ix E (k:Int)) = .bQ [.str [],.int (S.n.ko (ix E (k:Int)) S.cs)]from aa ug]at GR
    simp[-al,hk,GR,ug];refine⟨U', xz,sR,by omega,?_⟩
    rw[KG,sQ];show _=(if _ then _ else _)
    rw[ab ug]
  ·rw[jH (by omega)]at sQ
   simp[-al,hk];refine⟨U,qT,hU.sub λi B hB=>?_,Xc,?_⟩
   ·have:=dz (h.o i B hB).1
    unfold mf;rw[aa (by omega)]
    exact hB
   ·rw[KG,sQ];rfl
 ·simp[-al,hc,he]
  exact⟨T,hs,hT,hle,by unfold Lg.vS;rw[ab he]⟩
end Ab
namespace Ab
attribute [local simp] nR
structure Lg.Fit (S:Lg):Prop where
 ok:S.Ok
 hz:((S.n.iM S.ws S.ws).length:Int)<=1000000
 hf:pw (S.n.iM S.ws S.ws)
 hx:∀w∈gz (S.n.iM S.ws S.ws),dA w/\w.length<=10000
 hl:(gz (S.n.iM S.ws S.ws)).length<=1000000
def Lg.put (S:Lg) (w:List Int):Lg:={S with ws:=gz (S.ws ++ [w])}
inductive Cm (E:Lg):Nat->Lg->Prop
 |done (S:Lg):S.Fit->S.vS = .bQ [.ah,.bool false,.int 0]->bP S E->Cm E 0 S
 |step (k:Nat) (S:Lg) (w:List Int):S.Fit->S.vS = .bQ [iL w,.bool true,.int 0]->w.length<=10000->S.ws.length+1<=128->((S.ws.length:Int)+1)*S.n.calls<=128->Cm E k (S.put w)->Cm E (k+1) S
theorem bP.symm{S T:Lg}(h:bP S T):bP T S:=⟨h.1.symm,h.2.1.symm,h.2.2.symm⟩
theorem bP.pR{S T:Lg}(h:bP S T):∀l,T.pR l=S.pR l
 | []=>rfl
 |w::l=>by simp only[Lg.pR,h.1,h.2.2,h.pR l]
theorem bP.row{S T:Lg}(h:bP S T):T.row=S.row:=by unfold Lg.row;rw[h.1,h.2.2]
theorem bP.pE{S T:Lg}(h:bP S T):∀l,T.pE l=S.pE l
 | []=>rfl
 |w::l=>by simp only[Lg.pE,h.1,h.2.1,h.2.2,h.row,h.pE l]
theorem bP.vS{S T:Lg}(h:bP S T):T.vS=S.vS:=by
 unfold Lg.vS;rw[h.pE,h.1,h.2.1,h.pR]
theorem bP.fit{S T:Lg}(h:bP S T) (g:S.Fit):T.Fit:=⟨h.ok g.ok,by rw[h.1,h.2.1];exact g.hz,by rw[h.1,h.2.1];exact g.hf,by rw[h.1,h.2.1];exact g.hx,by rw[h.1,h.2.1];exact g.hl⟩
theorem Cm.same{E:Lg}{k:Nat}{S:Lg}(h:Cm E k S):∀{T:Lg},bP S T->Cm E k T:=by
 induction h with
 |done S hf hm hs=>exact λg=>.done _ (g.fit hf) (by rw[g.vS];exact hm) (g.symm.trans hs)
 |step k S w hf hm hw h1 h2 _ ih=>exact fun {T} g=>.step k T w (g.fit hf) (by rw[g.vS];exact hm) hw (by rw[g.2.1];exact h1) (by rw[g.1,g.2.1];exact h2) (ih ⟨g.1,by unfold Lg.put;rw[g.2.1],g.2.2⟩)
theorem LM.words{S:Lg}{O:Nat->Option ag}{σ τ:List ag}(h:LM S O σ) (ws:List (List Int))
  (hl:ak τ 3=some ⟨some 13,S.n.pQ ++ [cK ws,.sl S.pc (2*S.cs.length) 0 S.cs.length,.cM 2],.live⟩)
  (ho:∀i,i ≠ 3->ak τ i=ak σ i):LM {S with ws:=ws} O τ:=
 ⟨hl,by rw[ho 2 (by omega)];exact h.m,by rw[show({S with ws:=ws}:Lg).pc=S.pc from rfl,ho _ h.A8.2];exact h.c,λe he=>by rw[ho _ (h.xk e he).2.1];exact h.r e he,h.le,h.ok,h.nd,h.nb,h.A8,h.xk,λi B hB=>by
  obtain⟨h1,h2,h3,h4⟩:=h.o i B hB;exact⟨by rw[ho i h3];exact h1,h2,h3,h4⟩⟩
theorem anM{S E:Lg}{O:Nat->Option ag}{σ:List ag}{k:Nat}(h:LM S O σ) (hc:Cm E k S):LX L IH [.ptr 3 13 0] σ (λr τ=>∃T,bP T E/\LM T O τ/\σ.length<=τ.length/\r = .int 0):=by
 refine aic rfl ?_;simp[-al];refine bC (λq:Nat×Lg×List ag=>[]) (λq=>q.2.2) (λq=>LM q.2.1 O q.2.2/\Cm E q.1 q.2.1/\σ.length<=q.2.2.length) (λq=>q.1) (k,S,σ) (by simp[bT]) ⟨h,hc,bw _⟩ ?_
 rintro⟨j,T,τ⟩ ⟨hT,FE,hlT⟩;dsimp only at hT FE hlT ⊢;cases FE with
 |done _ hf hm hs=>
  obtain⟨r,Fp, gD,U,qT,hU,Xc,rfl⟩:=dS (VN hT hf.ok hf.hz hf.hf hf.hx hf.hl);rw[hm]at gD;simp[-al,gD];exact⟨U,qT.symm.trans hs,hU,by omega⟩
 |step k _ w hf hm hw h1 h2 hn=>
  obtain⟨r,Fp, gD,U,qT,hU,Xc,rfl⟩:=dS (VN hT hf.ok hf.hz hf.hf hf.hx hf.hl);rw[hm]at gD;have hL:=hU.l;rw[qT.1,qT.2.1,qT.2.2]at hL;have hun:=anB [T.ws,[w]] (by simp) (by simp[kB];omega) (by
   intro v hv;simp[kB]at hv;rcases hv with hv|rfl
   ·have:=(hf.ok.ws v hv).2;omega
   ·omega)
  have AO:kB [T.ws,[w]]=T.ws ++ [w]:=by simp[kB]
  rw[AO]at hun;obtain⟨q1,q2⟩:=hf.ok.ok.calls;have anN : PC Eh [.aE false [.aE false (T.ws.map iL),.aE false [.aE false (w.map .int)]]]=some (cK (gz (T.ws ++ [w]))):=hun;have hq:0<=((T.ws.length:Int)+1)*T.n.calls:=Int.mul_nonneg (by omega) q1
  have e1:=bM h2;have e2:=bM (show(T.ws.length:Int)+1<=128 by omega)
  simp[-al,gD,hL,ao.pQ,anN, e1,e2];refine⟨by omega,by omega,ba (k,U.put w,_) (by simp) rfl ⟨hU.words _ (by rw[qT.1,qT.2.1,qT.2.2];exact cE (dz hU.l)) λi hi=>aO (Ne.symm hi),hn.same ⟨qT.1,by unfold Lg.put;rw[qT.2.1],qT.2.2⟩,by dsimp only;rw[bZ];omega⟩ (by dsimp only;omega)⟩
end Ab
namespace Ab
structure pX where
 n:ao
 k:Nat
 fa:Nat->Bool
 fi:Nat->Nat->Int
 fq:Nat->Nat->Nat->Int
def pX.qq (F:pX) (i g r:Nat):Int:=if F.n.calls.toNat=0 then 0 else F.fq i g r
structure Hs (F:pX) (a s J G R:Nat) (A:ao):Prop where
 h1:A.calls=F.n.calls
 h2:A.aj=F.n.aj
 h3:A.aq=F.n.aq
 h4:A.stack=((F.n.aA F.k:Nat):Int)
 h5:A.start=0
 h6:A.call=(F.n.dO F.k F.k).call
 h7:A.push=(F.n.dO F.k F.k).push
 la:A.accept.length=F.k
 li:A.inner.length=F.k
 qt:∀i,i<F.k->(A.cC .aQ i).length=F.n.aj.toNat
 lp:A.pop.length=F.k
 mR:∀i,i<F.k->(A.bD i).length=F.n.aA F.k
 qu:∀i g,i<F.k->g<F.n.aA F.k->(A.cG i g).length=F.n.aq.toNat
 ac:∀i:Nat,i<F.k->ix A.accept (i:Int)=if i<a then F.fa i else false
 aQ:∀i j:Nat,i<F.k->j<F.n.aj.toNat->ix (A.cC .aQ i) (j:Int)=if i<s\/i=s/\j<J then F.fi i j else 0
 pop:∀i g r:Nat,i<F.k->g<F.n.aA F.k->r<F.n.aq.toNat->ix (A.cG i g) (r:Int)=if i<s\/i=s/\(g<G\/g=G/\r<R)then F.qq i g r else 0
theorem anO{F:pX}:Hs F 0 0 0 0 0 (F.n.dO F.k F.k):=by
 refine⟨rfl,rfl,rfl,rfl,rfl,rfl,rfl,by simp[ao.dO],by simp[ao.dO],λi hi=>by rw[J0 hi];rfl,mQ,λi hi=>by rw[(kK hi).2.2.2];simp,λi g hi hg=>by rw[uV hi hg];simp,λi hi=>?_,λi j hi hj=>?_,λi g r hi hg hr=>?_⟩
 ·rw[aa (by omega)];exact lh hi
 ·rw[aa (by omega),(kK hi).2.2.1];exact lh hj
 ·rw[aa (by omega),uV hi hg];exact lh hr
theorem Hs.bS{F:pX}{a s J G R:Nat}{A:ao}(h:Hs F a s J G R A) (hk:F.k ≠ 0) (p:Tn->Nat):A.bS p=[.int F.n.calls,.int F.n.aj,.int F.n.aq,.int ((F.n.aA F.k:Nat):Int),.int 0,.sl (p .ac) F.k 0 F.k,.sl (p (.ls .cl)) F.k 0 F.k,.sl (p (.ls .ps)) F.k 0 F.k,.sl (p (.ls .aQ)) F.k 0 F.k,.sl (p .po) F.k 0 F.k]:=by
 have e1:A.call.length=F.k:=by rw[h.h6];exact mP .cl
 have e2:A.push.length=F.k:=by rw[h.h7];exact mP .ps
 unfold ao.bS cQ;rw[h.h1,h.h2,h.h3,h.h4,h.h5,h.la,e1,e2,h.li,h.lp,aa hk,aa hk,aa hk,aa hk]
theorem Hs.mM{F:pX}{s J G R:Nat}{A:ao}(h:Hs F s s J G R A) (hs:s<F.k):Hs F (s+1) s J G R {A with accept:=A.accept.set s (F.fa s)}:=by
 refine⟨h.h1,h.h2,h.h3,h.h4,h.h5,h.h6,h.h7,by simp[h.la],h.li,h.qt,h.lp,h.mR,h.qu,λi hi=>?_,h.aQ,h.pop⟩
 show ix (A.accept.set s _) (i:Int)=_;rw[iY (by rw[h.la];exact hs)]
 by_cases e:i=s
 ·rw[ab e,ab (by omega),e]
 ·rw[aa e,h.ac i hi]
  by_cases e2:i<s
  ·rw[ab e2,ab (by omega)]
  ·rw[aa e2,aa (by omega)]
theorem Hs.mN{F:pX}{a s J G R:Nat}{A:ao}(h:Hs F a s J G R A) (hs:s<F.k) (hJ:J<F.n.aj.toNat):Hs F a s (J+1) G R {A with inner:=A.inner.set s ((A.cC .aQ s).set J (F.fi s J))}:=by
 have eu:∀s' : Nat,ao.cC {A with inner:=A.inner.set s ((A.cC .aQ s).set J (F.fi s J))} .aQ s' = if s' = s then(A.cC .aQ s).set J (F.fi s J)else A.cC .aQ s' :=λs' =>iY (by rw[h.li];exact hs) s'
 refine⟨h.h1,h.h2,h.h3,h.h4,h.h5,h.h6,h.h7,h.la,by simp[h.li],λi hi=>?_,h.lp,h.mR,h.qu,h.ac,λi j hi hj=>?_,h.pop⟩
 ·rw[eu]
  split
  ·rw[nJ];exact h.qt s hs
  ·exact h.qt i hi
 ·rw[eu]
  by_cases e:i=s
  ·rw[ab e,iY (by rw[h.qt s hs];exact hJ)]
   by_cases e2:j=J
   ·rw[ab e2,ab (.inr ⟨e,by omega⟩),e,e2]
   ·subst e
    rw[aa e2,h.aQ i j hi hj]
    by_cases e3:j<J
    ·rw[ab (.inr ⟨rfl,e3⟩),ab (.inr ⟨rfl,by omega⟩)]
    ·rw[aa (by omega),aa (by omega)]
  ·rw[aa e,h.aQ i j hi hj]
   by_cases e3:i<s
   ·rw[ab (.inl e3),ab (.inl e3)]
   ·rw[aa (by omega),aa (by omega)]
theorem Hs.mO{F:pX}{a s J G R:Nat}{A:ao}(h:Hs F a s J G R A) (hs:s<F.k) (hG:G<F.n.aA F.k) (hR:R<F.n.aq.toNat):Hs F a s J G (R+1) {A with pop:=A.pop.set s ((A.bD s).set G ((A.cG s G).set R (F.qq s G R)))}:=by
 have eu:∀s' : Nat,ao.bD {A with pop:=A.pop.set s ((A.bD s).set G ((A.cG s G).set R (F.qq s G R)))} s' = if s' = s then(A.bD s).set G ((A.cG s G).set R (F.qq s G R))else A.bD s' :=λs' =>iY (by rw[h.lp];exact hs) s'
 have ju:∀s' g' : Nat,ao.cG {A with pop:=A.pop.set s ((A.bD s).set G ((A.cG s G).set R (F.qq s G R)))} s' g' = if s' = s/\g' = G then(A.cG s G).set R (F.qq s G R)else A.cG s' g' :=λs' g' =>by
  generalize (A.cG s G).set R (F.qq s G R)=w at *;unfold ao.cG;rw[eu]
  by_cases e:s' = s
  ·rw[ab e,iY (by rw[h.mR s hs];exact hG)]
   by_cases e2:g' = G
   ·rw[ab e2,ab ⟨e,e2⟩]
   ·rw[aa e2,aa λa=>e2 a.2,e]
  ·rw[aa e,aa λa=>e a.1]
 refine⟨h.h1,h.h2,h.h3,h.h4,h.h5,h.h6,h.h7,h.la,h.li,h.qt,by simp[h.lp],λi hi=>?_,λi g hi hg=>?_,h.ac,h.aQ,λi g r hi hg hr=>?_⟩
 ·rw[eu]
  split
  ·rw[nJ];exact h.mR s hs
  ·exact h.mR i hi
 ·rw[ju]
  split
  ·rw[nJ];exact h.qu s G hs hG
  ·exact h.qu i g hi hg
 ·rw[ju]
  by_cases e:i=s/\g=G
  ·rw[ab e,iY (by rw[h.qu s G hs hG];exact hR)]
   by_cases e2:r=R
   ·rw[ab e2,ab (.inr ⟨e.1,.inr ⟨e.2,by omega⟩⟩),e.1,e.2,e2]
   ·have hp:=h.pop s G r hs hG hr
    rw[aa e2,hp,e.1,e.2]
    by_cases e3:r<R
    ·rw[ab (.inr ⟨rfl,.inr ⟨rfl,e3⟩⟩),ab (.inr ⟨rfl,.inr ⟨rfl,by omega⟩⟩)]
    ·rw[aa (by omega),aa (by omega)]
  ·rw[aa e,h.pop i g r hi hg hr]
   by_cases e3:i<s\/i=s/\(g<G\/g=G/\r<R)
   ·rw[ab e3,ab (by omega)]
   ·rw[aa e3,aa (by omega)]
theorem Hs.Ac{F:pX}{a s J G:Nat}{A:ao}(h:Hs F a s J G F.n.aq.toNat A):Hs F a s J (G+1) 0 A:=by
 refine⟨h.h1,h.h2,h.h3,h.h4,h.h5,h.h6,h.h7,h.la,h.li,h.qt,h.lp,h.mR,h.qu,h.ac,h.aQ,λi g r hi hg hr=>?_⟩;rw[h.pop i g r hi hg hr]
 by_cases e3:i<s\/i=s/\(g<G\/g=G/\r<F.n.aq.toNat)
 ·rw[ab e3,ab (by omega)]
 ·rw[aa e3,aa (by omega)]
theorem Hs.Ad{F:pX}{s:Nat}{A:ao}(h:Hs F (s+1) s F.n.aj.toNat (F.k*F.n.calls.toNat) 0 A):Hs F (s+1) (s+1) 0 0 0 A:=by
 refine⟨h.h1,h.h2,h.h3,h.h4,h.h5,h.h6,h.h7,h.la,h.li,h.qt,h.lp,h.mR,h.qu,h.ac,λi j hi hj=>?_,λi g r hi hg hr=>?_⟩
 ·rw[h.aQ i j hi hj]
  by_cases e3:i<s\/i=s/\j<F.n.aj.toNat
  ·rw[ab e3,ab (by omega)]
  ·rw[aa e3,aa (by omega)]
 ·rw[h.pop i g r hi hg hr]
  by_cases hc:F.n.calls.toNat=0
  ·have:F.qq i g r=0:=ab hc
   rw[this];simp
  ·have bR:F.n.aA F.k=max 1 (F.k*F.n.calls.toNat):=rfl
   have:1<=F.k*F.n.calls.toNat:=Nat.mul_pos (by omega) (by omega)
   by_cases e3:i<s\/i=s/\(g<F.k*F.n.calls.toNat\/g=F.k*F.n.calls.toNat/\r<0)
   ·rw[ab e3,ab (by omega)]
   ·rw[aa e3,aa (by omega)]
def pX.sf (F:pX):ao:=⟨F.n.calls,F.n.aj,F.n.aq,((F.n.aA F.k:Nat):Int),0,(List.range F.k).map λi=>F.fa i,(F.n.dO F.k F.k).call,(F.n.dO F.k F.k).push,(List.range F.k).map λi=>(List.range F.n.aj.toNat).map λj=>F.fi i j,(List.range F.k).map λi=>(List.range (F.n.aA F.k)).map λg=>(List.range F.n.aq.toNat).map λr=>F.qq i g r⟩
theorem Hs.fin{F:pX}{A:ao}(h:Hs F F.k F.k 0 0 0 A):A=F.sf:=by
 obtain⟨c,i,r,sk,s0,ac,cl,ps,aQ,po⟩:=A;have e1:c=F.n.calls:=h.h1;have e2:i=F.n.aj:=h.h2;have e3:r=F.n.aq:=h.h3;have e4:sk=((F.n.aA F.k:Nat):Int):=h.h4;have e5:s0=0:=h.h5;have e6:cl=(F.n.dO F.k F.k).call:=h.h6;have e7:ps=(F.n.dO F.k F.k).push:=h.h7;have e8:ac=(List.range F.k).map λi=>F.fa i:=nW h.la λi hi=>by
  have:=h.ac i hi;rw[ab hi]at this;exact this
 have e9:aQ=(List.range F.k).map λi=>(List.range F.n.aj.toNat).map λj=>F.fi i j:=nW h.li λi hi=>nW (h.qt i hi) λj hj=>by
  have:=h.aQ i j hi hj;rw[ab (.inl hi)]at this;exact this
 have e10:po=(List.range F.k).map λi=>(List.range (F.n.aA F.k)).map λg=>(List.range F.n.aq.toNat).map λr=>F.qq i g r:=nW h.lp λi hi=>nW (h.mR i hi) λg hg=>nW (h.qu i g hi hg) λr hr=>by
  have:=h.pop i g r hi hg hr;rw[ab (.inl hi)]at this;exact this
 rw[e1,e2,e3,e4,e5,e6,e7,e8,e9,e10];rfl
attribute [local simp] nR
open Classical in
noncomputable def pF (Dm:Nat->Prop) (σ:List ag):Nat->Option ag:=λi=>if Dm i then ak σ i else none
def kq (S:Lg) (N i:Nat):Prop:=i<N/\i ≠ 2/\i ≠ 3/\i ≠ S.pc/\∀e∈S.mo,e.2.2 ≠ i
theorem tN{Dm:Nat->Prop}{σ:List ag}{i:Nat}{B:ag}:pF Dm σ i=some B↔Dm i/\ak σ i=some B:=by
 unfold pF;split
 ·rename_i h;simp[h]
 ·rename_i h;simp[h]
theorem LM.dom{S:Lg}{O:Nat->Option ag}{σ:List ag}(h:LM S O σ) (N:Nat):LM S (pF (kq S N) σ) σ:=
 ⟨h.l,h.m,h.c,h.r,h.le,h.ok,h.nd,h.nb,h.A8,h.xk,λi B hB=>⟨(tN.1 hB).2,(tN.1 hB).1.2⟩⟩
theorem LM.old{S:Lg}{O:Nat->Option ag}{σ:List ag}(h:LM S O σ){i:Nat}{B:ag}(hB:O i=some B):kq S σ.length i:=⟨dz (h.o i B hB).1,(h.o i B hB).2⟩
theorem LM.goD{T:Lg}{Dm:Nat->Prop}{σ τ:List ag}(h:LM T (pF Dm σ) τ) (hd:∀i,Dm i->i<σ.length):(∀i B,Dm i->ak σ i=some B->ak τ i=some B)/\LM T (pF Dm τ) τ:=by
 have h1:∀i B,Dm i->ak σ i=some B->ak τ i=some B:=λi B hi hB=>(h.o i B (tN.2 ⟨hi,hB⟩)).1;refine⟨h1,h.l,h.m,h.c,h.r,h.le,h.ok,h.nd,h.nb,h.A8,h.xk,λi B hB=>?_⟩;obtain⟨hi,hB⟩:=tN.1 hB;have hl:=hd i hi;obtain⟨C,hC⟩:∃C,ak σ i=some C:=⟨σ[i],by rw[bE];exact dc hl⟩
 exact⟨hB,(h.o i C (tN.2 ⟨hi,hC⟩)).2⟩
theorem LM.KH{T:Lg}{Dm:Nat->Prop}{σ:List ag}{j:Nat}{B:ag}(h:LM T (pF Dm σ) σ) (hj:Dm j) (hl:j<σ.length):LM T (pF Dm (ay σ j B)) (ay σ j B):=by
 obtain⟨C,hC⟩:∃C,ak σ j=some C:=⟨σ[j],by rw[bE];exact dc hl⟩
 have e:pF Dm σ=mf (pF Dm σ) j C:=by
  funext i
  unfold mf;split
  ·rename_i hi;subst hi;exact tN.2 ⟨hj,hC⟩
  ·rfl
 rw[e]at h;have:=h.tn B;refine this.sub λi D hD=>?_;obtain⟨hi,hD⟩:=tN.1 hD;unfold mf
 by_cases q:i=j
 ·subst q
  rw[cE hl]at hD;rw[ab rfl];exact hD
 ·rw[aO (Ne.symm q)]at hD
  rw[aa q];exact tN.2 ⟨hi,hD⟩
structure HI (F:pX) (S:Lg) (O0:Nat->Option ag) (Dm:Nat->Prop) (d b sm r0:Nat) (A:ao) (T:Lg) (τ:List ag):Prop where
 lm:LM T (pF Dm τ) τ
 sa:bP S T
 as:AS A (λt=>fp (F.n.aA F.k) t+d) τ
 bx:ak τ b=some ⟨some 10,[.int F.n.calls,.int F.n.aj,.int F.n.aq,.int ((F.n.aA F.k:Nat):Int),.int 0,.sl (1+d) F.k 0 F.k,.sl (6+F.n.aA F.k+d) F.k 0 F.k,.sl (7+F.n.aA F.k+d) F.k 0 F.k,.sl (9+F.n.aA F.k+d) F.k 0 F.k,.sl (10+F.n.aA F.k+d) F.k 0 F.k],.live⟩
 st:ak τ sm=some (tM S S.ws.length)
 rz:ak τ r0=some ⟨some 10,[.int 0,.int 0,.int 0,.int 0,.int 0,.ah,.ah,.ah,.ah,.ah],.live⟩
 ol:∀i B,O0 i=some B->ak τ i=some B
 ln:b<τ.length
structure HD (O0:Nat->Option ag) (Dm:Nat->Prop) (d b sm r0:Nat):Prop where
 fr:∀i,d<=i->i<=b->Dm i
 s:Dm sm/\sm<d
 r:Dm r0/\r0<d
 o:∀i B,O0 i=some B->Dm i/\i<d
 up:∀i,Dm i->i<=b
theorem HI.row{F:pX}{S:Lg}{O0:Nat->Option ag}{Dm:Nat->Prop}{d b sm r0:Nat}{A:ao}{T:Lg}{τ:List ag}(h:HI F S O0 Dm d b sm r0 A T τ) (hd:HD O0 Dm d b sm r0) (ho:S.Ok) (VO:d<=b) (hA:∀t B,A.cont (λt=>fp (F.n.aA F.k) t+d) t=some B->fp (F.n.aA F.k) t+d<b){w:List Int}(hw:dA w) (hl:w.length<=10000) (hz:S.n.ko w S.cs=0):∃T' Fp, L th [.ptr 3 13 0,iL w] τ=some (.bQ [.str (fe (S.row w)),.int 0],Fp)/\HI F S O0 Dm d b sm r0 A T' Fp :=by
 have Av:=h.sa.ok ho;obtain⟨r,Fp, hc,T', VI, gP, zU, rfl⟩:=dS (KE h.lm Av.fits Av.cs Av.cl.1 Av.cl.2 w hw hl);rw[h.sa.1,h.sa.2.2,show GL S.n S.cs w = .bQ [.str (fe (S.row w)),.int 0]from ab hz]at hc;have Tt:=h.ln;obtain⟨g1,g2⟩:=VI.goD λi hi=>by have:=hd.up i hi;omega
 refine⟨T', Fp, hc,g2,h.sa.trans gP, h.as.other λt B hB=>?_,g1 _ _ (hd.fr b VO (bw _)) h.bx,g1 _ _ hd.s.1 h.st,g1 _ _ hd.r.1 h.rz,λi B hB=>g1 _ _ (hd.o i B hB).1 (h.ol i B hB),by omega⟩
 have h1:=hA t B hB;have h2:=h.as.has t B hB;rw[h2];exact g1 _ _ (hd.fr _ (by omega) (by omega)) h2
theorem HI.set{F:pX}{S:Lg}{O0:Nat->Option ag}{Dm:Nat->Prop}{d b sm r0:Nat}{A A' : ao}{T:Lg}{τ:List ag}(h:HI F S O0 Dm d b sm r0 A T τ) (hd:HD O0 Dm d b sm r0){j:Nat}{B:ag}(j0:d<=j) (j1:j<b) (ha:AS A' (λt=>fp (F.n.aA F.k) t+d) (ay τ j B)):HI F S O0 Dm d b sm r0 A' T (ay τ j B):=by
 have Tt:=h.ln;have h1:=hd.s.2;have h2:=hd.r.2;exact⟨h.lm.KH (hd.fr j j0 (by omega)) (by omega),h.sa,ha,by rw[aO (by omega)];exact h.bx,by rw[aO (by omega)];exact h.st,by rw[aO (by omega)];exact h.rz,λi C hC=>by rw[aO (by have:=(hd.o i C hC).2;omega)];exact h.ol i C hC,by rw[bZ];exact Tt⟩
theorem Hs.dom{F:pX}{a s J G R:Nat}{A:ao}(h:Hs F a s J G R A){p:Tn->Nat}{t:Tn}{B:ag}(hB:A.cont p t=some B):∃C,(F.n.dO F.k F.k).cont p t=some C:=by
 have K8:∀q,(A.tb q).length=F.k:=λq=>by
  cases q
  ·rw[show A.tb .cl=A.call from rfl,h.h6];exact mP .cl
  ·rw[show A.tb .ps=A.push from rfl,h.h7];exact mP .ps
  ·exact h.li
 cases t with
 |ac=>exact⟨_,rfl⟩
 |ls q=>
  refine⟨_,aa λe=>?_⟩;have h1:=mP (n:=F.n) (k:=F.k) (s:=F.k) q;rw[e]at h1;have:A.tb q=[]:=dW (by rw[K8,<-h1];rfl)
  have hB:(if A.tb q=[]then none else some _)=some B:=hB
  rw[ab this]at hB;simp at hB
 |po=>
  refine⟨_,aa λe=>?_⟩;have h1:=mQ (n:=F.n) (k:=F.k) (s:=F.k);rw[e]at h1;have:A.pop=[]:=dW (by rw[h.lp,<-h1];rfl)
  have hB:(if A.pop=[]then none else some _)=some B:=hB
  rw[ab this]at hB;simp at hB
 |rw q i=>
  refine⟨_,ab ?_⟩;rw[mP];have hB:(if i<(A.tb q).length then some _ else none)=some B:=hB
  rw[K8]at hB;exact eS λe=>by rw[aa e]at hB;simp at hB
 |pr i=>
  refine⟨_,ab ?_⟩;rw[mQ];have hB:(if i<A.pop.length then some _ else none)=some B:=hB
  rw[h.lp]at hB;exact eS λe=>by rw[aa e]at hB;simp at hB
 |pg i g=>
  have hB:(if i<A.pop.length/\g<(A.bD i).length then some _ else none)=some B:=hB
  have VP:i<A.pop.length/\g<(A.bD i).length:=eS λe=>by rw[aa e]at hB;simp at hB
  rw[h.lp]at VP;have h2:=VP.2;rw[h.mR i VP.1]at h2;refine⟨_,ab ⟨by rw[mQ];exact VP.1,?_⟩⟩
  rw[(kK VP.1).2.2.2];simpa using h2
theorem anP{F:pX}{d a s J G R:Nat}{A:ao}{σ:List ag}(h:AS A (λt=>fp (F.n.aA F.k) t+d) σ) (hT:Hs F a s J G R A) (hk:F.k ≠ 0):ak σ (9+F.n.aA F.k+d)=some ⟨none,(List.range F.k).map λi=>iw (fp (F.n.aA F.k) (.rw .aQ i)+d) F.n.aj.toNat,.live⟩:=by
 have:=h.has (.ls .aQ) _ (aa λe=>by have:=hT.li;rw[show A.inner=[]from e]at this;exact hk this.symm)
 rw[show ak σ (9+F.n.aA F.k+d)=_ from this];rw[show(A.tb .aQ).length=F.k from hT.li]
 congr 2
 exact gf λi hi=>by rw[hT.qt i (cy.1 hi)]
theorem anQ{F:pX}{d a s J G R:Nat}{A:ao}{σ:List ag}(h:AS A (λt=>fp (F.n.aA F.k) t+d) σ) (hT:Hs F a s J G R A) (hk:F.k ≠ 0):ak σ (10+F.n.aA F.k+d)=some ⟨none,(List.range F.k).map λi=>iw (fp (F.n.aA F.k) (.pr i)+d) (F.n.aA F.k),.live⟩:=by
 have:=h.has .po _ (aa λe=>by have:=hT.lp;rw[e]at this;exact hk this.symm)
 rw[show ak σ (10+F.n.aA F.k+d)=_ from this];rw[hT.lp]
 congr 2
 exact gf λi hi=>by rw[hT.mR i (cy.1 hi)]
theorem anR{F:pX}{d a s J G R:Nat}{A:ao}{σ:List ag}(h:AS A (λt=>fp (F.n.aA F.k) t+d) σ) (hT:Hs F a s J G R A){i:Nat}(hi:i<F.k):ak σ (fp (F.n.aA F.k) (.pr i)+d)=some ⟨none,(List.range (F.n.aA F.k)).map λg=>iw (fp (F.n.aA F.k) (.pg i g)+d) F.n.aq.toNat,.live⟩:=by
 have:=h.has (.pr i) _ (ab (by rw[hT.lp];exact hi))
 rw[this,hT.mR i hi]
 congr 2
 exact gf λg hg=>by rw[hT.qu i g hi (cy.1 hg)]
theorem anS{n:ao}{xs ws:List (List Int)}{w:List Int}(hw:w∈ws){i:Nat}(hi:(i:Int)<n.aj):w ++ [n.calls+(i:Int)]∈n.iM xs ws:=by
 unfold ao.iM;refine rq.2 ⟨w,hw,eI.2 (.inl ?_)⟩;exact cR.2 ⟨i,cy.2 (by omega),rfl⟩
theorem anT{n:ao}{xs ws:List (List Int)}{w x:List Int}(hw:w∈ws) (hx:x∈xs){c r:Nat}(hc:(c:Int)<n.calls) (hr:(r:Int)<n.aq):w++(c:Int)::(x ++ [n.calls+n.aj+(r:Int)])∈n.iM xs ws:=by
 unfold ao.iM;refine rq.2 ⟨w,hw,eI.2 (.inr ?_)⟩;refine rq.2 ⟨c,cy.2 (by omega),rq.2 ⟨x,hx,cR.2 ⟨r,cy.2 (by omega),rfl⟩⟩⟩
theorem anU{n:ao}(hn:n.Ok){w:List Int}(hw:dA w){i:Nat}(hi:(i:Int)<n.aj):dA (w ++ [n.calls+(i:Int)]):=λx hx=>by
 have h1:=hn.calls;have h2:=hn.aj;rcases eI.1 hx with h|h
 ·exact hw x h
 ·simp at h;subst h;omega
theorem anV{n:ao}(hn:n.Ok){w x:List Int}(hw:dA w) (hx:dA x){c r:Nat}(hc:(c:Int)<n.calls) (hr:(r:Int)<n.aq):dA (w++(c:Int)::(x ++ [n.calls+n.aj+(r:Int)])):=λy hy=>by
 have h1:=hn.calls;have h2:=hn.aj;have h3:=hn.aq;rcases eI.1 hy with h|h
 ·exact hw y h
 ·rcases cB.1 h with h|h
  ·omega
  ·rcases eI.1 h with h|h
   ·exact hx y h
   ·simp at h;omega
end Ab
namespace Ab
attribute [local simp] nR
def Lg.FF (S:Lg) (w:List Int):Int:=((S.ws.map S.row).idxOf (S.row w):Nat)
def Lg.wd (S:Lg) (i:Nat):List Int:=ix S.ws (i:Int)
noncomputable def Lg.tg (S:Lg):pX:=⟨S.n,S.ws.length,λi=>(ix (S.row (S.wd i)) 0==43),λi j=>S.FF (S.wd i ++ [S.n.calls+(j:Int)]),λi g r=>S.FF (S.wd (g/S.n.calls.toNat)++((g%S.n.calls.toNat:Nat):Int)::(S.wd i ++ [S.n.calls+S.n.aj+(r:Int)]))⟩
theorem pG{S:Lg}:S.tg.k=S.ws.length:=rfl
theorem qB{S:Lg}:S.tg.n=S.n:=rfl
abbrev kr:ag:=⟨some 10,[.int 0,.int 0,.int 0,.int 0,.int 0,.ah,.ah,.ah,.ah,.ah],.live⟩
def HyP (S:Lg) (O:Nat->Option ag) (σ:List ag) (r:AV) (τ:List ag):Prop:=∃T p Dm,bP S T/\LM T (pF Dm τ) τ/\(∀i B,O i=some B->Dm i/\ak τ i=some B)/\AS S.tg.sf p τ/\(∀t B,S.tg.sf.cont p t=some B->Dm (p t)/\σ.length<p t/\p t<τ.length)/\r = .bQ [.agg (S.tg.sf.bS p),.int 0]
theorem anW{S:Lg}{O:Nat->Option ag}{σ:List ag}(h:LM S O σ) (ho:S.Ok) (I6:1<=S.ws.length) (hkc:S.ws.length*S.n.calls.toNat<=128) (he0:S.pR S.ws=0) (W8:∀w∈S.ws,S.n.ko w S.cs=0)
  (fc:∀w∈S.n.iM S.ws S.ws,S.n.ko w S.cs=0/\S.row w∈S.ws.map S.row):LX L II [.ptr 3 13 0] σ (HyP S O σ):=by
 refine aid rfl ?_;obtain⟨r,gk,hc,T,hs,hle,hr⟩:=dS (VH (h.add kr) ho);obtain⟨hT,rfl⟩:LM T (mf (mf O σ.length kr) (σ ++ [kr]).length (tM S S.ws.length)) gk/\r = .bQ [.cM (σ ++ [kr]).length,.int 0]:=by
  rcases hr with⟨_,hT,e⟩|⟨he,_,_⟩
  ·exact⟨hT,e⟩
  ·exact absurd he0 he
 have xM:=ho.wl;have hL:=hT.l;rw[hs.1,hs.2.1,hs.2.2]at hL;have Ax:(σ ++ [kr]).length=σ.length+1:=by simp
 rw[Ax]at hc hT hle;obtain⟨rv,VQ,hF,Um,hA⟩:=dS (Ui S.n ho.ok S.ws.length (by omega) hkc)
 have Un:=anO (F:=S.tg);have jY:S.tg.k ≠ 0:=by show S.ws.length ≠ 0;omega
 have gD:(S.n.dO S.ws.length S.ws.length).bS (fp (S.n.aA S.ws.length))=[.int S.n.calls,.int S.n.aj,.int S.n.aq,.int ((S.n.aA S.ws.length:Nat):Int),.int 0,.sl 1 S.ws.length 0 S.ws.length,.sl (6+S.n.aA S.ws.length) S.ws.length 0 S.ws.length,.sl (7+S.n.aA S.ws.length) S.ws.length 0 S.ws.length,.sl (9+S.n.aA S.ws.length) S.ws.length 0 S.ws.length,.sl (10+S.n.aA S.ws.length) S.ws.length 0 S.ws.length]:=Un.bS jY _;rw[gD]at Um;subst Um;have Uo : L wN [.agg [.int S.n.calls,.int S.n.aj,.int S.n.aq,.int S.n.stack,.int S.n.start,.aE false (S.n.accept.map .bool),.aE false (S.n.call.map iL),.aE false (S.n.push.map iL),.aE false (S.n.inner.map iL),.aE false (S.n.pop.map cK)],.int S.ws.length] []=some (.agg [.int S.n.calls,.int S.n.aj,.int S.n.aq,.int ((S.n.aA S.ws.length:Nat):Int),.int 0,.sl 1 S.ws.length 0 S.ws.length,.sl (6+S.n.aA S.ws.length) S.ws.length 0 S.ws.length,.sl (7+S.n.aA S.ws.length) S.ws.length 0 S.ws.length,.sl (9+S.n.aA S.ws.length) S.ws.length 0 S.ws.length,.sl (10+S.n.aA S.ws.length) S.ws.length 0 S.ws.length],VQ):=hF;have JX:=hA.shift gk;obtain⟨fh,nX⟩:∃s,gk++VQ.map (gM gk.length)=s:=⟨_,rfl⟩;have e1:∀Y:List ag,gk++(VQ.map (gM gk.length)++Y)=fh++Y:=λY=>by rw[<-nX,iS]
 have e2:gk.length+VQ.length=fh.length:=by rw[<-nX];simp
 have e3:(gk++VQ.map (gM gk.length)).length=fh.length:=by rw[nX]
 have eb:∀Y:ag,ak (fh ++ [Y]) fh.length=some Y:=λY=>iq;have es:∀Y Z:ag,ay (fh ++ [Y]) fh.length Z=fh ++ [Z]:=λY Z=>Aa;have Ff:AS (S.n.dO S.ws.length S.ws.length) (λt=>fp (S.n.aA S.ws.length) t+gk.length) fh:=by rw[<-nX];exact JX
 have hLs:∀Y,ak (fh++Y) 3=ak gk 3:=λY=>by rw[<-nX,iS,gj (dz hL)]
 simp[-al,-List.map_replicate,hc,hL,ao.pQ,Uo, jx,kM,e1,e2,e3,eb,es,hLs]
 -- what is kept
 have Xf:∀i B,(mf (mf O σ.length kr) (σ.length+1) (tM S S.ws.length)) i=some B->kq T (fh.length+1) i/\i<gk.length:=λi B hB=>by
  have h1:=hT.old hB;exact⟨⟨by have:=h1.1;omega,h1.2⟩,h1.1⟩
 have hLo:∀i,O i=none\/i<σ.length:=λi=>by
  cases e:O i with
  |none=>exact .inl rfl
  |some B=>exact .inr (dz (h.o i B e).1)
 have hOO:∀i B,O i=some B->(mf (mf O σ.length kr) (σ.length+1) (tM S S.ws.length)) i=some B:=λi B hB=>by
  have:=dz (h.o i B hB).1;unfold mf;rw[aa (by omega),aa (by omega)];exact hB
 have hOs:(mf (mf O σ.length kr) (σ.length+1) (tM S S.ws.length)) (σ.length+1)=some (tM S S.ws.length):=ab rfl;have hOr:(mf (mf O σ.length kr) (σ.length+1) (tM S S.ws.length)) σ.length=some kr:=by
  unfold mf;rw[aa (by omega),ab rfl]
 have hD:HD O (kq T (fh.length+1)) gk.length fh.length (σ.length+1) σ.length:=by
  refine⟨λi i0 i1=>⟨by omega,?_,?_,?_,λe he=>?_⟩,Xf _ _ hOs,Xf _ _ hOr,λi B hB=>Xf _ _ (hOO i B hB),λi hi=>by have:=hi.1;omega⟩
  ·have:=dz hT.m;omega
  ·have:=dz hT.l;omega
  ·have:=dz hT.c;omega
  ·have:=dz (hT.r e he);omega
 have gV:∀{a s J G R:Nat} {A:ao},Hs S.tg a s J G R A->∀t B,A.cont (λt=>fp (S.tg.n.aA S.tg.k) t+gk.length) t=some B->fp (S.tg.n.aA S.tg.k) t+gk.length<fh.length:=λhs t B hB=>by
  obtain⟨C,hC⟩:=hs.dom hB;exact Ff.lt hC
 have VO:gk.length<=fh.length:=by omega
 have xG:HI S.tg S O (kq T (fh.length+1)) gk.length fh.length (σ.length+1) σ.length (S.tg.n.dO S.tg.k S.tg.k) T (fh ++ [⟨some 10,[.int S.n.calls,.int S.n.aj,.int S.n.aq,.int ((S.n.aA S.ws.length:Nat):Int),.int 0,.sl (1+gk.length) S.ws.length 0 S.ws.length,.sl (6+S.n.aA S.ws.length+gk.length) S.ws.length 0 S.ws.length,.sl (7+S.n.aA S.ws.length+gk.length) S.ws.length 0 S.ws.length,.sl (9+S.n.aA S.ws.length+gk.length) S.ws.length 0 S.ws.length,.sl (10+S.n.aA S.ws.length+gk.length) S.ws.length 0 S.ws.length],.live⟩]):=by
  have hex:∀i B,ak gk i=some B->∀Y,ak (fh++Y) i=some B:=λi B hB Y=>by
   rw[<-nX,iS,gj (dz hB)];exact hB
  exact⟨(hT.ext λi B hB=>hex i B hB _).dom _,hs,Ff.other λt B hB=>gj (Ff.lt hB),iq,hex _ _ (hT.o _ _ hOs).1 _,hex _ _ (hT.o _ _ hOr).1 _,λi B hB=>hex _ _ (hT.o _ _ (hOO i B hB)).1 _,by simp⟩
 refine bC (λq:Nat×ao×Lg×List ag=>[(3,.int q.1)]) (λq=>q.2.2.2) (λq=>q.1<=S.ws.length/\Hs S.tg q.1 q.1 0 0 0 q.2.1/\HI S.tg S O (kq T (fh.length+1)) gk.length fh.length (σ.length+1) σ.length q.2.1 q.2.2.1 q.2.2.2) (λq=>S.ws.length-q.1) (0,S.tg.n.dO S.tg.k S.tg.k,T,_) (by simp[bT]) ⟨by simp,Un,xG⟩ ?_
 clear xG es eb e1 e2 e3 hLs hF Uo JX hL hc Xf hOO hOs hOr;rintro⟨s,A,U,υ⟩ ⟨s0,hH,hI⟩;dsimp only at s0 hH hI ⊢
 by_cases gy:s<S.ws.length
 ·have A9:=aZ (l:=S.ws) (n:=(s:Int)) (by omega) (by omega)
  obtain⟨U1,υ1,r6,vK⟩:=hI.row hD ho VO (gV hH) (ho.ws _ A9).1 (by have:=(ho.ws _ A9).2;omega) (W8 _ A9)
  have FI:∀K,si1 (.str (fe (S.row (ix S.ws (s:Int))))) (.int 0) K=K (.ik 4 (ix (S.row (ix S.ws (s:Int))) 0)):=λK=>by
   have hlr:(S.row (ix S.ws (s:Int))).length=S.cs.length:=by simp[Lg.row,ao.kp]
   have aqz:=ho.cl.1;have h0:0<(S.row (ix S.ws (s:Int))).length:=by omega
   have hb:=u4 (n:=S.n) (cs:=S.cs) (w:=ix S.ws (s:Int)) _ (aZ (l:=S.row (ix S.ws (s:Int))) (n:=0) (by omega) (by omega))
   rw[H5];have e:(fe (S.row (ix S.ws (s:Int))))[(0:Int).toNat]? = some (UInt8.ofNat (ix (S.row (ix S.ws (s:Int))) 0).toNat):=by
    unfold fe;rw[ie];have:(S.row (ix S.ws (s:Int)))[(0:Int).toNat]? = some (ix (S.row (ix S.ws (s:Int))) 0):=by
     rw[show((0:Int))=((0:Nat):Int)from rfl,aS h0];exact dc h0
    rw[this];rfl
   rw[e];simp only[aP,Int.le_refl,true_and];rw[Vw hb.1 hb.2]
  have mH:=vK.bx;have hL1:=vK.lm.l;rw[vK.sa.1,vK.sa.2.1,vK.sa.2.2]at hL1;have Ae:=vK.as.has .ac _ rfl;rw[show fp (S.tg.n.aA S.tg.k) .ac+gk.length=1+gk.length from rfl]at Ae;have Up:=hH.la;simp only[pG,qB]at mH Up;have anX:=vK.ln;have xT:∀B,ak (ay υ1 (1+gk.length) B) 3=ak υ1 3:=λB=>by
   have:=dz hT.l;exact aO (by omega)
  simp[-al,-List.map_replicate,gy,r6,↓FI,mH,Ae,Up,xT,hL1,ao.pQ];have jA:1+gk.length<fh.length:=gV hH .ac _ rfl;have hH1:=hH.mM (by rw[pG];exact gy)
  have tZ:=vK.set hD (j:=1+gk.length) (by omega) jA (vK.as.mM (l:=A.accept.set s (S.tg.fa s)))
  rw[List.map_set]at tZ;have lI:=ho.ok.calls;have WH:=ho.ok.aj;have Ga:=ho.ok.aq;have hwS:=ho.ws _ A9;have AX:∀v,cH (qM 0 (S.ws.map S.row)) (.str (fe (S.row v)))=some (if S.row v∈S.ws.map S.row then some (.int (S.FF v))else none):=λv=>by
   have:=wR (l:=S.row v) u4 0 (S.ws.map S.row) λx hx=>by
    obtain⟨w,_,rfl⟩:=cR.1 hx;exact u4
   rw[this];simp[Lg.FF]
  have qN:∀x,bg 1 (.str x)=true:=λ_=>rfl;have VT:tM S S.ws.length=⟨some 0,[],.map (qM 0 (S.ws.map S.row))⟩:=by
   unfold tM;rw[gl (bw _)]
  have e2:ix (List.range S.ws.length) (s:Int)=s:=by rw[aS (by simpa using gy)];simp
  have e3:ix (List.range S.ws.length) (0+(s:Int)*1)=s:=by rw[<-e2];congr 1;omega
  refine bC (λq:Nat×ao×Lg×List ag=>[(11,.int q.1)]) (λq=>q.2.2.2) (λq=>q.1<=S.n.aj.toNat/\Hs S.tg (s+1) s q.1 0 0 q.2.1/\HI S.tg S O (kq T (fh.length+1)) gk.length fh.length (σ.length+1) σ.length q.2.1 q.2.2.1 q.2.2.2) (λq=>S.n.aj.toNat-q.1) (0,_,U1,_) (by simp[bT];rfl) ⟨by simp,hH1,tZ⟩ ?_
  clear tZ vK hL1 xT mH Ae Up anX r6 hI hH hH1;rintro⟨j,A2,U2,υ2⟩ ⟨j0,xU,tZ⟩;dsimp only at j0 xU tZ ⊢
  by_cases hj:j<S.n.aj.toNat
  ·have yG:(j:Int)<S.n.aj:=by omega
   have yF:=bM yG;have Xa:=VB tZ.lm (by rw[tZ.sa.1];exact ho.ok) (ix S.ws (s:Int)) j (by omega) (by rw[tZ.sa.1];exact yG) (by omega)
   rw[tZ.sa.1]at Xa;have hm:=fc _ (anS (xs:=S.ws) A9 yG);obtain⟨U3,υ3,GR,u5⟩:=tZ.row hD ho VO (gV xU) (anU ho.ok hwS.1 yG) (by simp;omega) hm.1
   have Ay:=AX (ix S.ws (s:Int) ++ [S.n.calls+(j:Int)]);rw[ab hm.2]at Ay;have Xb:=u5.bx;have hs3:=u5.st;rw[VT]at hs3;have xE:=anP u5.as xU jY;have rL:=u5.as.has (.rw .aQ s) _ (ab (by rw[show(A2.tb .aQ).length=S.ws.length from xU.li];exact gy))
   have iv:=xU.qt s gy;simp only[pG,qB]at Xb xE rL iv;generalize hV:ix S.ws (s:Int) ++ [S.n.calls+(j:Int)]=V at *;simp[-al,-List.map_replicate,yF,Xa,hV,GR,Xb,hs3,xE,gy,e2,e3,rL,km,Ay,qN];have mJ:=gV xU (.rw .aQ s) _ (ab (by rw[show(A2.tb .aQ).length=S.ws.length from xU.li];exact gy))
   have AK:S.tg.fi s j=S.FF V:=by
    show S.FF (S.wd s ++ [S.n.calls+(j:Int)])=_;rw[<-hV];rfl
   have Ba:=u5.set hD (j:=fp (S.tg.n.aA S.tg.k) (.rw .aQ s)+gk.length) (by omega) mJ (u5.as.mN (by rw[xU.li];exact gy) (l:=(A2.cC .aQ s).set j (S.tg.fi s j)) (by simp))
   have KI:=xU.mN (by rw[pG];exact gy) (by rw[qB];exact hj)
   refine⟨by omega,iv,by omega,by omega,ba (j+1,_,U3,_) (by simp) ?_ ⟨by dsimp only;omega,KI,Ba⟩ (by dsimp only;omega)⟩
   dsimp only;rw[Zb,List.map_set,AK];rfl
  ·have yF:=gg (show ¬(j:Int)<S.n.aj by omega)
   have ej:j=S.tg.n.aj.toNat:=by rw[qB];omega
   rw[ej]at xU;have xT:=tZ.lm.l;rw[tZ.sa.1,tZ.sa.2.1,tZ.sa.2.2]at xT;simp[-al,-List.map_replicate,yF,xT,ao.pQ];refine bC (λq:Nat×ao×Lg×List ag=>[(15,.int q.1)]) (λq=>q.2.2.2) (λq=>q.1<=S.ws.length/\Hs S.tg (s+1) s S.tg.n.aj.toNat (q.1*S.tg.n.calls.toNat) 0 q.2.1/\HI S.tg S O (kq T (fh.length+1)) gk.length fh.length (σ.length+1) σ.length q.2.1 q.2.2.1 q.2.2.2) (λq=>S.ws.length-q.1) (0,A2,U2,υ2) (by simp[bT]) ⟨by simp,by simpa using xU,tZ⟩ ?_
   clear tZ xT xU;rintro⟨p,A3,U3,υ3⟩ ⟨p0,VU,u5⟩;dsimp only at p0 VU u5 ⊢
   by_cases hp:p<S.ws.length
   ·have hwp:=aZ (l:=S.ws) (n:=(p:Int)) (by omega) (by omega)
    have hwP:=ho.ws _ hwp;have hL3:=u5.lm.l;rw[u5.sa.1,u5.sa.2.1,u5.sa.2.2]at hL3;simp[-al,-List.map_replicate,hp,hL3,ao.pQ];refine bC (λq:Nat×ao×Lg×List ag=>[(18,.int q.1)]) (λq=>q.2.2.2) (λq=>q.1<=S.n.calls.toNat/\Hs S.tg (s+1) s S.tg.n.aj.toNat (p*S.tg.n.calls.toNat+q.1) 0 q.2.1/\HI S.tg S O (kq T (fh.length+1)) gk.length fh.length (σ.length+1) σ.length q.2.1 q.2.2.1 q.2.2.2) (λq=>S.n.calls.toNat-q.1) (0,A3,U3,υ3) (by simp[bT]) ⟨by simp,VU,u5⟩ ?_
    clear u5 hL3 VU;rintro⟨c,A4,U4,υ4⟩ ⟨c0,KI,Ba⟩;dsimp only at c0 KI Ba ⊢
    by_cases hc:c<S.n.calls.toNat
    ·have Gu:(c:Int)<S.n.calls:=by omega
     have GM:=bM Gu;have hL4:=Ba.lm.l;rw[Ba.sa.1,Ba.sa.2.1,Ba.sa.2.2]at hL4;simp[-al,-List.map_replicate,GM,hL4,ao.pQ];refine bC (λq:Nat×ao×Lg×List ag=>[(20,.int q.1)]) (λq=>q.2.2.2) (λq=>q.1<=S.n.aq.toNat/\Hs S.tg (s+1) s S.tg.n.aj.toNat (p*S.tg.n.calls.toNat+c) q.1 q.2.1/\HI S.tg S O (kq T (fh.length+1)) gk.length fh.length (σ.length+1) σ.length q.2.1 q.2.2.1 q.2.2.2) (λq=>S.n.aq.toNat-q.1) (0,A4,U4,υ4) (by simp[bT]) ⟨by simp,KI,Ba⟩ ?_
     clear Ba hL4 KI;rintro⟨r,A5,U5,υ5⟩ ⟨r0,u6,GS⟩;dsimp only at r0 u6 GS ⊢
     by_cases hr:r<S.n.aq.toNat
     ·have pN:(r:Int)<S.n.aq:=by omega
      have I5:=bM pN;have qO:=VC GS.lm (by rw[GS.sa.1];exact ho.ok) (ix S.ws (p:Int)) (ix S.ws (s:Int)) c r (by omega) (by rw[GS.sa.1];exact Gu) (by omega) (by rw[GS.sa.1];exact pN) (by omega) (by omega)
      rw[GS.sa.1]at qO;have hm:=fc _ (anT (xs:=S.ws) hwp A9 Gu pN);obtain⟨U6,υ6,hc6,Az⟩:=GS.row hD ho VO (gV u6) (anV ho.ok hwP.1 hwS.1 Gu pN) (by simp;omega) hm.1
      have Ay:=AX (ix S.ws (p:Int)++(c:Int)::(ix S.ws (s:Int) ++ [S.n.calls+S.n.aj+(r:Int)]));rw[ab hm.2]at Ay;have hb6:=Az.bx;have hs6:=Az.st;have hL6:=Az.lm.l;rw[Az.sa.1,Az.sa.2.1,Az.sa.2.2]at hL6;rw[VT]at hs6;have Gp:=anQ Az.as u6 jY;have Fg:=anR Az.as u6 (i:=s) (by rw[pG];exact gy)
      have hG:p*S.tg.n.calls.toNat+c<S.tg.n.aA S.tg.k:=by
       rw[qB,pG];have h1:p*S.n.calls.toNat+S.n.calls.toNat<=S.ws.length*S.n.calls.toNat:=by rw[<-Nat.succ_mul];exact jR _ (by omega)
       show _<max 1 (S.ws.length*S.n.calls.toNat);omega
      have hGi:(p:Int)*S.n.calls+(c:Int)=((p*S.n.calls.toNat+c:Nat):Int):=by rw[Int.natCast_add,oy];congr 2;omega
      have JB:S.n.aA S.ws.length<=128:=by show max 1 (S.ws.length*S.n.calls.toNat)<=128;omega
      have WZ:=Az.as.has (.pg s (p*S.tg.n.calls.toNat+c)) _ (ab ⟨by rw[u6.lp];exact gy,by rw[u6.mR s gy];exact hG⟩)
      have hp6:=gV u6 (.pg s (p*S.tg.n.calls.toNat+c)) _ (ab ⟨by rw[u6.lp];exact gy,by rw[u6.mR s gy];exact hG⟩)
      have VV:=u6.qu s _ gy hG;have wW:0<=(p:Int)*S.n.calls/\(p:Int)*S.n.calls<=128:=by
       have e:(p:Int)*S.n.calls=((p*S.n.calls.toNat:Nat):Int):=by rw[oy];congr 1;omega
       have:p*S.tg.n.calls.toNat=p*S.n.calls.toNat:=rfl;have:S.tg.n.aA S.tg.k=S.n.aA S.ws.length:=rfl;omega
      have W0:S.tg.qq s (p*S.tg.n.calls.toNat+c) r=S.FF (ix S.ws (p:Int)++(c:Int)::(ix S.ws (s:Int) ++ [S.n.calls+S.n.aj+(r:Int)])):=by
       unfold pX.qq;rw[qB,aa (by omega)]
       show S.FF (S.wd ((p*S.n.calls.toNat+c)/S.n.calls.toNat)++(((p*S.n.calls.toNat+c)%S.n.calls.toNat:Nat):Int)::(S.wd s ++ [S.n.calls+S.n.aj+(r:Int)]))=_;rw[show(p*S.n.calls.toNat+c)/S.n.calls.toNat=p from by rw[Nat.mul_comm,Nat.mul_add_div (by omega),Nat.div_eq_of_lt hc,Nat.add_zero],show(p*S.n.calls.toNat+c)%S.n.calls.toNat=c from by rw[Nat.mul_comm,Nat.mul_add_mod,Nat.mod_eq_of_lt hc]]
       rfl
      have hH7:=u6.mO (by rw[pG];exact gy) hG (R:=r) (by rw[qB];exact hr)
      have hI7:=Az.set hD (j:=fp (S.tg.n.aA S.tg.k) (.pg s (p*S.tg.n.calls.toNat+c))+gk.length) (by omega) hp6 (Az.as.mO (by rw[u6.lp];exact gy) (by rw[u6.mR s gy];exact hG) (l:=(A5.cG s (p*S.tg.n.calls.toNat+c)).set r (S.tg.qq s (p*S.tg.n.calls.toNat+c) r)) (by simp))
      generalize hV:ix S.ws (p:Int)++(c:Int)::(ix S.ws (s:Int) ++ [S.n.calls+S.n.aj+(r:Int)])=V at *;simp only[pG,qB]at hb6 Gp Fg WZ VV hG hp6;have f2:ix (List.range (S.n.aA S.ws.length)) ((p*S.n.calls.toNat+c:Nat):Int)=p*S.n.calls.toNat+c:=by rw[aS (by simpa using hG)];simp
      rw[show S.tg.n.calls.toNat=S.n.calls.toNat from rfl]at hH7 hI7 W0;generalize hgd:p*S.n.calls.toNat+c=g at *;have f3:ix (List.range (S.n.aA S.ws.length)) (0+(g:Int)*1)=g:=by rw[<-f2];congr 1;rw[f2];omega
      simp[-al,-List.map_replicate,I5,qO,hV,hc6,hb6,hs6,hL6,ao.pQ,Gp,gy,e2,e3,Fg,hGi,f2,f3,hG,WZ,Ay,qN];refine⟨by omega,by omega,by omega,VV,by omega,by omega,ba (r+1,_,U6,_) (by simp) ?_ ⟨by dsimp only;omega,?_,hI7⟩ (by dsimp only;omega)⟩
      ·dsimp only
       rw[Zb,List.map_set,W0];rfl
      ·subst hgd
       exact hH7
     ·have I5:=gg (show ¬(r:Int)<S.n.aq by omega)
      have er:r=S.tg.n.aq.toNat:=by rw[qB];omega
      rw[er]at u6;simp[-al,-List.map_replicate,I5];exact⟨by omega,ba (c+1,A5,U5,υ5) (by simp) rfl ⟨by dsimp only;omega,u6.Ac,GS⟩ (by dsimp only;omega)⟩
    ·have GM:=gg (show ¬(c:Int)<S.n.calls by omega)
     have ec:c=S.n.calls.toNat:=by omega
     have epc:p*S.tg.n.calls.toNat+c=(p+1)*S.tg.n.calls.toNat:=by rw[ec,fx,Nat.one_mul];rfl
     rw[epc]at KI;simp[-al,-List.map_replicate,GM];exact⟨by omega,ba (p+1,A4,U4,υ4) (by simp) rfl ⟨by dsimp only;omega,KI,Ba⟩ (by dsimp only;omega)⟩
   ·have ep:p=S.tg.k:=by rw[pG];omega
    rw[ep]at VU;simp[-al,-List.map_replicate,hp];exact⟨by omega,ba (s+1,A3,U3,υ3) (by simp) rfl ⟨by dsimp only;omega,VU.Ad,u5⟩ (by dsimp only;omega)⟩
 ·have es:s=S.tg.k:=by rw[pG];omega
  rw[es]at hH;have mZ:=hI.rz;have xH:=hI.bx;have iv:σ.length<υ.length:=dz mZ;have ij:∀B:ag,ak (ay υ σ.length B) σ.length=some B:=λB=>cE iv;have vA:=λ(ce:CE) (c0 c1 c2 c3 c4 c5 c6 c7 c8 c9:AV)=>rQ (ce:=ce) (σ:=ay υ σ.length ⟨some 10,[c0,c1,c2,c3,c4,c5,c6,c7,c8,c9],.live⟩) (n:=σ.length) (ij _);have anY:=hH.fin;subst anY;have ju:=hH.bS jY (λt=>fp (S.tg.n.aA S.tg.k) t+gk.length);have Tt:=hI.ln;have AF:=hD.r.2;have bY:∀t C,S.tg.sf.cont (λt=>fp (S.tg.n.aA S.tg.k) t+gk.length) t=some C->gk.length<=fp (S.tg.n.aA S.tg.k) t+gk.length/\fp (S.tg.n.aA S.tg.k) t+gk.length<fh.length:=λt C hC=>⟨by omega,gV hH t C hC⟩
  simp only[pG,qB]at xH;simp[-al,-B4,gy,xH,mZ,ij,vA];refine⟨U,λt=>fp (S.tg.n.aA S.tg.k) t+gk.length,kq T (fh.length+1),hI.sa,hI.lm.KH hD.r.1 iv,λi B hB=>⟨(hD.o i B hB).1,?_⟩,hI.as.other λt C hC=>aO (by have:=(bY t C hC).1;omega),λt C hC=>?_,?_⟩
  ·have:=dz (h.o i B hB).1
   rw[aO (by omega)];exact hI.ol i B hB
  ·obtain⟨h1,h2⟩:=bY t C hC
   refine⟨hD.fr _ h1 (Nat.le_of_lt h2),?_,?_⟩
   ·show σ.length<fp (S.tg.n.aA S.tg.k) t+gk.length
    omega
   ·rw[bZ]
    show fp (S.tg.n.aA S.tg.k) t+gk.length<_;omega
  ·rw[ju];rfl
end Ab
namespace Ab
attribute [local simp] nR
structure Lg.Cl (E:Lg):Prop where
 ok:E.Ok
 w1:1<=E.ws.length
 kc:E.ws.length*E.n.calls.toNat<=128
 e0:E.pR E.ws=0
 ws:∀w∈E.ws,E.n.ko w E.cs=0
 cl:∀w∈E.n.iM E.ws E.ws,E.n.ko w E.cs=0/\E.row w∈E.ws.map E.row
theorem bP.tg{S T:Lg}(h:bP S T):T.tg=S.tg:=by
 unfold Lg.tg Lg.FF Lg.wd;simp only[h.row,h.1,h.2.1]
theorem bP.cl{S T:Lg}(h:bP S T) (g:S.Cl):T.Cl:=⟨h.ok g.ok,by rw[h.2.1];exact g.w1,by rw[h.1,h.2.1];exact g.kc,by rw[h.2.1,h.pR];exact g.e0,by rw[h.1,h.2.1,h.2.2];exact g.ws,by rw[h.1,h.2.1,h.2.2,h.row];exact g.cl⟩
theorem anZ{S E:Lg}{O:Nat->Option ag}{σ:List ag}{k:Nat}(h:LM S O σ) (hc:Cm E k S) (hE:E.Cl):LX L Is [.ptr 3 13 0] σ (HyP E O σ):=by
 refine ahO rfl ?_;obtain⟨r,gk,r6,T,hs,hT,hle,rfl⟩:=dS (anM (h.add kr) hc);have FE:=hs.symm.cl hE;obtain⟨r,AT,p9,U,p,Dm,qT,hU,hO,hA,hp,rfl⟩:=dS (anW hT FE.ok FE.w1 FE.kc FE.e0 FE.ws FE.cl);rw[show T.tg=E.tg from hs.symm.tg]at *;have Ax:(σ ++ [kr]).length=σ.length+1:=by simp
 rw[Ax]at hle;have hz:=hO σ.length kr (by unfold mf;rw[ab rfl])
 have rX:σ.length<AT.length:=dz hz.2;have ug:=hz.2;have ju:E.tg.sf.bS p=[.int E.tg.sf.calls,.int E.tg.sf.aj,.int E.tg.sf.aq,.int E.tg.sf.stack,.int E.tg.sf.start,iw (p .ac) E.tg.sf.accept.length,cQ (p (.ls .cl)) E.tg.sf.call.length,cQ (p (.ls .ps)) E.tg.sf.push.length,cQ (p (.ls .aQ)) E.tg.sf.inner.length,cQ (p .po) E.tg.sf.pop.length]:=rfl;rw[ju]at p9;have Uk:∀b m:Nat,dK (cQ b m)=true:=λb m=>by unfold cQ;split<;>rfl
 have ij:∀B:ag,ak (ay AT σ.length B) σ.length=some B:=λB=>cE rX;have vA:=λ(ce:CE) (c0 c1 c2 c3 c4 c5 c6 c7 c8 c9:AV)=>rQ (ce:=ce) (σ:=ay AT σ.length ⟨some 10,[c0,c1,c2,c3,c4,c5,c6,c7,c8,c9],.live⟩) (n:=σ.length) (ij _);generalize KJ:E.tg.sf=A at *;simp[-al,-B4,r6,p9,ug,Uk,ij,vA];refine⟨U,p,Dm,hs.symm.trans qT,hU.KH hz.1 rX,λi B hB=>?_,?_,λt B hB=>?_,?_⟩
 ·have hi:=dz (h.o i B hB).1
  have:=hO i B (by unfold mf;rw[aa (by omega)];exact hB)
  exact⟨this.1,by rw[aO (by omega)];exact this.2⟩
 ·rw[KJ]
  exact hA.other λt B hB=>aO (by have:=(hp t B hB).2.1;omega)
 ·rw[KJ]at hB
  obtain⟨h1,h2,h3⟩:=hp t B hB;exact⟨h1,by omega,by rw[bZ];exact h3⟩
 ·rw[KJ,ju]
end Ab
namespace Ab
def pY (ws:List (List Int)):Lg:=⟨du,ws,[([],[])],[],1⟩
theorem an0:(pY [[]]).vS = .bQ [iL [0,3],.bool true,.int 0]:=by kernel_rfl
theorem an1:(pY [[],[0,3]]).vS = .bQ [.ah,.bool false,.int 0]:=by kernel_rfl
theorem VW:(pY [[]]).put [0,3]=pY [[],[0,3]]:=by kernel_rfl
theorem VX:(pY [[],[0,3]]).tg.sf=rU:=by kernel_rfl
theorem FG:du.fits:=Kn uY ⟨by decide,by decide,by decide,by decide⟩
theorem GU:∀c∈[(([]:List Int),([]:List Int))],FB c:=λc hc=>by
 simp at hc;subst hc;exact⟨by simp,by simp,by simp⟩
theorem an2:(pY [[]]).Ok:=⟨uY,FG,GU,by decide,λw hw=>by simp[pY]at hw;subst hw;exact⟨λx hx=>by simp at hx,by simp⟩,by decide,by decide⟩
theorem VY:(pY [[],[0,3]]).Ok:=⟨uY,FG,GU,by decide,λw hw=>by
  simp[pY]at hw;rcases hw with rfl|rfl
  ·exact⟨λx hx=>by simp at hx,by simp⟩
  ·exact⟨λx hx=>by simp at hx;omega,by simp⟩,by decide,by decide⟩
def VZ (l:List (List Int)):Bool:=l.all λw=>(w.all λx=>decide (0<=x/\x<=255))&&decide (w.length<=10000)
theorem an3{l:List (List Int)}(h:VZ l=true):∀w∈l,dA w/\w.length<=10000:=λw hw=>by
 have:=rp.1 h w hw;rw[aD]at this;refine⟨λx hx=>?_,of_decide_eq_true this.2⟩;exact of_decide_eq_true (rp.1 this.1 x hx)
theorem an4{l:List (List Int)}:(gz l).length<=l.length:=by
 show(fN (fE aV l)).length<=_;have:=Tb (fE aV l);rw[ER]at this;exact this
theorem V0 (ws:List (List Int)) (ho:(pY ws).Ok) (h1:((du.iM ws ws).length:Int)<=1000000) (h2:VZ (du.iM ws ws)=true):(pY ws).Fit:=by
 have h3:=an3 h2;refine⟨ho,h1,λw hw=>by have:=(h3 w hw).2;omega,λw hw=>h3 w (alx.1 hw),?_⟩
 have:(gz (du.iM ws ws)).length<=(du.iM ws ws).length:=an4;show(gz (du.iM ws ws)).length<=1000000;omega
theorem an5:Cm (pY [[],[0,3]]) 1 (pY [[]]):=by
 refine .step 0 _ [0,3] (V0 _ an2 (by decide) (by decide)) an0 (by decide) (by decide) (by decide) ?_
 rw[VW];exact .done _ (V0 _ VY (by decide) (by decide)) an1 ⟨rfl,rfl,rfl⟩
theorem an6:(pY [[],[0,3]]).Cl:=⟨VY,by decide,by decide,by decide,by decide,by decide⟩
end Ab
