/- Two vectors are combined. What holds while the vectors are closed. All vectors: the program closes them; pairs. All vectors: the program closes them. Condition: none. -/
import Derived.Test.YtdenhmniigikcaaGreatN44D
set_option linter.all false
set_option maxRecDepth 100000
set_option maxHeartbeats 4000000
namespace Ab
structure tD (D:Vd):Prop where
 ok:D.n.Ok
 st:∀k∈D.K,D.n.tz k/\k.length=D.n.bw.length
 el:D.n.bw.length<=128
 plc:∀s c,0<=s->s<(D.n.accept.length:Int)->0<=c->c<D.n.calls->ix (ix D.n.call s) c<(D.plc.length:Int)/\0<=ix D.plc (ix (ix D.n.call s) c)/\ix D.plc (ix (ix D.n.call s) c)<(D.n.bw.length:Int)
theorem zX{n:ak}(hn:n.Ok){l:List Int}(h:n.tz l):dC l:=λx hx=>by
 have:=h x hx;have:=hn.states;omega
def Vd.dU (D:Vd) (x c y:Nat):List (List Int):=(List.range D.n.aq.toNat).map λ(r:Nat)=>(ix D.K (x:Int)).map (D.n.qu D.plc (ix D.K (y:Int)) c r)
theorem tD.kx{D:Vd}(h:tD D){x:Nat}(hx:x<D.K.length):D.n.tz (ix D.K (x:Int))/\(ix D.K (x:Int)).length=D.n.bw.length:=h.st _ (aU (by omega) (by omega))
theorem tD.qu{D:Vd}(h:tD D){x y:Nat}{c r:Int}(hx:x<D.K.length) (hy:y<D.K.length) (hc:0<=c/\c<D.n.calls) (hr:0<=r/\r<D.n.aq) :
  D.n.tz ((ix D.K (x:Int)).map (D.n.qu D.plc (ix D.K (y:Int)) c r))/\((ix D.K (x:Int)).map (D.n.qu D.plc (ix D.K (y:Int)) c r)).length=D.n.bw.length:=by
 refine⟨λs hs=>?_,by rw[dR];exact(h.kx hx).2⟩
 obtain⟨t,ht,rfl⟩:=cU.1 hs;have h1:=(h.kx hx).1 t ht;obtain⟨p1,p2,p3⟩:=h.plc t c h1.1 h1.2 hc.1 hc.2;have hy2:=h.kx hy;have h2:=hy2.1 _ (aU p2 (by omega))
 have h3:=h.ok.push t c h1.1 h1.2 hc.1 hc.2;exact h.ok.pop _ _ r h2.1 h2.2 h3.1 h3.2 hr.1 hr.2
theorem tD.aH{D:Vd}(h:tD D){vs:List (List Int)}(hv:∀v∈vs,D.n.tz v/\v.length=D.n.bw.length):tD {D with K:=aH D.K vs}:=
 ⟨h.ok,Fb h.st hv,h.el,h.plc⟩
def Vd.comb (D:Vd) (x c y:Nat):Vd:={D with K:=aH D.K (D.dU x c y),BL:=D.BL.set x ((D.row x).set c (D.bX x c ++ [idxs (aH D.K (D.dU x c y)) (D.dU x c y)]))}
theorem jd{α:Type} [Inhabited α]{l:List α}{k:Nat}{v:α}(hk:k<l.length) (j:Nat):ix (l.set k v) (j:Int)=if j=k then v else ix l (j:Int):=by
 by_cases hj:j<l.length
 ·rw[aT (by simpa using hj),aT hj,List.getElem_set]
  by_cases e:k=j
  ·rw[ae e,ae e.symm]
  ·rw[ab e,ab (Ne.symm e)]
 ·rw[ab (by omega)]
  unfold ix;rw[gL,gL,jH (by simp;omega),jH (by simp;omega)]
def Vd.dh (D:Vd) (x c:Nat) (w:List (List Int)):Vd:={D with BL:=D.BL.set x ((D.row x).set c w)}
theorem Tv{D:Vd}{x c:Nat}{w:List (List Int)}(hx:x<D.BL.length) (y:Nat):(D.dh x c w).row y=if y=x then(D.row x).set c w else D.row y:=jd hx y
theorem uU{D:Vd}{x c:Nat}{w:List (List Int)}(hx:x<D.BL.length) (y:Nat):((D.dh x c w).row y).length=(D.row y).length:=by
 rw[Tv hx];split
 ·rename_i e;subst e;simp
 ·rfl
theorem w3{D:Vd}{x c:Nat}{w:List (List Int)}(hx:x<D.BL.length) (hc:c<(D.row x).length) (y d:Nat):(D.dh x c w).bX y d=if y=x/\d=c then w else D.bX y d:=by
 unfold Vd.bX;rw[Tv hx]
 by_cases e:y=x
 ·subst e
  rw[ae rfl,jd hc];simp
 ·rw[ab e,ab λh=>e h.1]
theorem Tw{D:Vd}{O:Nat->Option ag}{x c:Nat}{w:List (List Int)}(hx:x<D.BL.length) (hc:c<(D.row x).length){p p' : Tg->Nat}(hp:∀t,t ≠ .cl x c->p' t=p t){t:Tg}(h1:t ≠ .rw x) (h2:t ≠ .cl x c):(D.dh x c w).cont O p' t=D.cont O p t:=by
 have hl:(D.dh x c w).BL.length=D.BL.length:=by simp[Vd.dh]
 have hb:(D.dh x c w).BL=[]↔D.BL=[]:=by rw[<-List.length_eq_zero_iff,hl,List.length_eq_zero_iff]
 cases t with
 |v=>
  show some ((D.dh x c w).box p')=some (D.box p);unfold Vd.box;rw[hl,hp .pl (by simp),hp .ls (by simp),hp .mp (by simp),hp .aR (by simp),hp .bl (by simp)]
  rfl
 |pl=>rfl
 |mp=>rfl
 |ls=>rfl
 |aR=>rfl
 |bl=>
  show(if(D.dh x c w).BL=[]then none else some ((D.dh x c w).ua p'))=if D.BL=[]then none else some (D.ua p)
  simp only[hb];unfold Vd.ua;rw[hl];simp only[uU hx,λy=>hp (.rw y) (by simp)]
 |rw y=>
  show(if y<(D.dh x c w).BL.length then some ((D.dh x c w).kn p' y)else none)=if y<D.BL.length then some (D.kn p y)else none
  rw[hl];have hy:¬y=x:=λe=>h1 (by rw[e])
  unfold Vd.kn;have pz:∀d,p' (.cl y d)=p (.cl y d):=λd=>hp _ (by simp[hy])
  simp only[uU hx,w3 hx hc,hy,false_and,ew,pz]
 |cl y d=>
  have hn:¬(y=x/\d=c):=λe=>h2 (by rw[e.1,e.2])
  show(if y<(D.dh x c w).BL.length/\d<((D.dh x c w).row y).length/\(D.dh x c w).bX y d ≠ []then some (⟨none,((D.dh x c w).bX y d).map wI,.live⟩:ag)else none)=if y<D.BL.length/\d<(D.row y).length/\D.bX y d ≠ []then some ⟨none,(D.bX y d).map wI,.live⟩else none
  rw[hl,uU hx,w3 hx hc,ab hn]
 |old i=>rfl
theorem VS.dh{D:Vd}{O:Nat->Option ag}{p p' : Tg->Nat}{σ τ:List ag}(h:VS D O p σ){x c:Nat}{w:List (List Int)}(hx:x<D.BL.length) (hc:c<(D.row x).length) (hp:∀t,t ≠ .cl x c->p' t=p t) (hw:w ≠ [])
  (gG:al τ (p' (.cl x c))=some ⟨none,w.map wI,.live⟩) (rO:al τ (p (.rw x))=some ((D.dh x c w).kn p' x))
  (hot:∀t B,t ≠ .rw x->t ≠ .cl x c->D.cont O p t=some B->al τ (p t)=some B)
  (eZ:∀t B,t ≠ .cl x c->D.cont O p t=some B->p t ≠ p' (.cl x c)):VS (D.dh x c w) O p' τ:=by
 have hl:(D.dh x c w).BL.length=D.BL.length:=by simp[Vd.dh]
 have key:∀t B,t ≠ .cl x c->(D.dh x c w).cont O p' t=some B->∃A,D.cont O p t=some A:=λt B ht hB=>by
  by_cases h1:t = .rw x
  ·subst h1;exact⟨_,ae hx⟩
  ·rw[Tw hx hc hp h1 ht]at hB;exact⟨B,hB⟩
 refine⟨λt B hB=>?_,λt u A B hA hB e=>?_,λi=>by rw[hp _ (by simp)];exact h.old i⟩
 ·by_cases h2:t = .cl x c
  ·subst h2
   have:(D.dh x c w).cont O p' (.cl x c)=some ⟨none,w.map wI,.live⟩:=by
    show(if x<(D.dh x c w).BL.length/\c<((D.dh x c w).row x).length/\(D.dh x c w).bX x c ≠ []then some (⟨none,((D.dh x c w).bX x c).map wI,.live⟩:ag)else none)=_
    simp only[hl,uU hx,w3 hx hc,and_self,dA];rw[ae ⟨hx,hc,hw⟩]
   rw[this]at hB;rw[gG];exact hB
  by_cases h1:t = .rw x
  ·subst h1
   have:(D.dh x c w).cont O p' (.rw x)=some ((D.dh x c w).kn p' x):=ae (by rw[hl];exact hx)
   rw[this]at hB;rw[hp _ h2,rO];exact hB
  ·rw[Tw hx hc hp h1 h2]at hB
   rw[hp _ h2];exact hot t B h1 h2 hB
 ·by_cases h1:t = .cl x c
  ·by_cases h2:u = .cl x c
   ·rw[h1,h2]
   ·obtain⟨B', o9⟩:=key u B h2 hB
    rw[h1,hp _ h2]at e;exact absurd e.symm (eZ u B' h2 o9)
  ·obtain⟨A', uT⟩:=key t A h1 hA
   by_cases h2:u = .cl x c
   ·rw[h2,hp _ h1]at e
    exact absurd e (eZ t A' h1 uT)
   ·obtain⟨B', o9⟩:=key u B h2 hB
    rw[hp _ h1,hp _ h2]at e;exact h.inj t u A' B' uT o9 e
theorem Tx{D:Vd}{p p' : Tg->Nat}{x c:Nat}{w:List (List Int)}(hx:x<D.BL.length) (hc:c<(D.row x).length) (hp:∀t,t ≠ .cl x c->p' t=p t) (hw:w ≠ []) :
  (D.dh x c w).kn p' x=⟨none,((List.range (D.row x).length).map λd=>cT (p (.cl x d)) (D.bX x d).length).set c (.sl (p' (.cl x c)) w.length 0 w.length),.live⟩:=by
 unfold Vd.kn;rw[uU hx]
 congr 1
 apply mG (by simp)
 intro i h1 h2;simp at h1;rw[List.getElem_set];simp only[oS,List.getElem_range,w3 hx hc]
 by_cases e:c=i
 ·subst e
  rw[ae rfl];simp only[and_self,dA];exact ab λe=>hw (dW e)
 ·rw[ab e,ab λh=>e h.2.symm,hp _ (by simp;exact λe' =>e e'.symm)]
theorem rP:∀{cs:List AV}{k:Nat}{x:AV},nY cs k [x]=cs.set k x
 | [],0,_=>rfl
 | [],_+1,_=>rfl
 |c::cs,0,x=>by cases cs<;>rfl
 |c::cs,k+1,x=>by rw[List.set_cons_succ,<-rP (cs:=cs)]
theorem JW{row:List Int}:AV.aE (!decide (row=[])) (row.map AV.int)=wI row:=by unfold wI;simp
theorem amk (D:Vd) (O:Nat->Option ag) (p:Tg->Nat) (σ:List ag) (h:VS D O p σ) (hD:tD D) (x c y:Nat) (hx:x<D.K.length) (hy:y<D.K.length) (hc:(c:Int)<D.n.calls) (sh:x<D.BL.length) (ox:c<(D.row x).length) (hK:D.K.length<=1000) (gG:(D.bX x c).length<=1000) :
  LX L zD [.ptr (p .v) 16 0,.int x,.int c,.int y] σ (λr τ=>r = .bS []/\∃p', p' .v=p .v/\VS (D.comb x c y) O p' τ):=by
 refine aiY rfl ?_;have hn:=hD.ok;have GK:=hn.aq;have hv:=h.has .v _ rfl;unfold Vd.box at hv;have qG:∀B:ag,al (σ ++ [B]) (p .v)=_:=λB=>gn (r:=[B]) hv;simp[-ao,qG];have rl:(D.dU x c y).length=D.n.aq.toNat:=by simp[Vd.dU]
 refine bu (λq:Nat×List ag=>[(4,.int q.1),(6,.sl σ.length q.1 0 q.1)]) (λq=>q.2)
  (λq=>q.1<=D.n.aq.toNat/\VS {D with K:=aH D.K ((D.dU x c y).take q.1)} (tB O σ.length (fy (idxs (aH D.K ((D.dU x c y).take q.1)) ((D.dU x c y).take q.1)))) p q.2) (λq=>D.n.aq.toNat-q.1) (0,σ ++ [fy []]) (by simp[bY]) ⟨by simp,by simpa[aH,idxs]using h.push _⟩ ?_
 rintro⟨r,qj⟩ ⟨r0,hS⟩;dsimp only at r0 hS ⊢;generalize yV:D.dU x c y=vs at *;obtain⟨ext,pP,Fe⟩:=wZ (vs.take r) D.K;have vK:ix (aH D.K (vs.take r)) (x:Int)=ix D.K (x:Int):=by rw[pP,aT (by simp;omega),aT hx,List.getElem_append_left]
 have JX:ix (aH D.K (vs.take r)) (y:Int)=ix D.K (y:Int):=by rw[pP,aT (by simp;omega),aT hy,List.getElem_append_left]
 have pL:=hS.view;have hb:=hS.has (.old σ.length) _ wY;rw[hS.old]at hb
 by_cases hr:r<D.n.aq.toNat
 ·have pQ:(r:Int)<D.n.aq:=by omega
  have w4:∀v∈vs,D.n.tz v/\v.length=D.n.bw.length:=λv hv=>by
   rw[<-yV]at hv;obtain⟨r', hr', rfl⟩:=cU.1 hv;have:=cA.1 hr';exact hD.qu hx hy ⟨by omega,hc⟩ ⟨by omega,by omega⟩
  have hDr:=hD.aH (vs:=vs.take r) λv hv=>w4 v (List.mem_of_mem_take hv);have ql:ix vs (r:Int)=(ix D.K (x:Int)).map (D.n.qu D.plc (ix D.K (y:Int)) c r):=by
   rw[<-yV,Vd.dU,jx (by omega) (by simp;omega)]
   simp[aT (show r<(List.range D.n.aq.toNat).length by simp;omega)]
  have hlx:=hD.kx hx;have hly:=hD.kx hy;have sr:=hD.el;have JY:(x:Int)<((aH D.K (vs.take r)).length:Int):=by rw[pP];simp;omega
  have hy1:(y:Int)<((aH D.K (vs.take r)).length:Int):=by rw[pP];simp;omega
  have hKl:(aH D.K (vs.take r)).length<=2000:=by rw[pP,bz];have:(vs.take r).length<=r:=List.length_take_le r vs;omega
  have hA:=amh (Vd.vcs {D with K:=aH D.K (vs.take r)}) hn x c y r ⟨by omega,JY⟩ ⟨by omega,hy1⟩ ⟨by omega,hc⟩ ⟨by omega,pQ⟩ (by show D.n.tz (ix (aH D.K (vs.take r)) (x:Int));rw[vK];exact hlx.1) (by show D.n.tz (ix (aH D.K (vs.take r)) (y:Int));rw[JX];exact hly.1) (by show(ix (aH D.K (vs.take r)) (x:Int)).length<=1000;rw[vK];omega)
   (λs s0 s1=>by show _/\_/\_<((ix (aH D.K (vs.take r)) (y:Int)).length:Int);rw[JX,hly.2];exact hD.plc s c s0 s1 (by omega) hc)
  obtain⟨z,gr,hA,hz⟩:=dS hA;have hz:cx gr true z=some (iL (ix vs (r:Int))):=by
   rw[hz,ql];show some (iL ((ix (aH D.K (vs.take r)) (x:Int)).map (D.n.qu D.plc (ix (aH D.K (vs.take r)) (y:Int)) c r)))=_;rw[vK,JX]
  have tZ:=w4 _ (aU (l:=vs) (n:=(r:Int)) (by omega) (by omega))
  have tk:=lj (w:=vs) (k:=r) (by omega)
  have dY:=Fc (K:=D.K) (vs:=vs.take r) (l:=ix vs (r:Int));generalize ix vs (r:Int)=l at *;have Tz:=Tm {D with K:=aH D.K (vs.take r)} _ p qj hS l (zX hn tZ.1) (λk hk=>zX hn (hDr.st k hk).1) (by omega) (λe=>by have h0:(aH D.K (vs.take r)).length=0:=(by dsimp only at e;rw[e];rfl);omega) (by dsimp only;omega)
  obtain⟨rv,τ,hN,rfl,uV,hlen⟩:=dS Tz;clear Tz;have zY:=uV.has (.old σ.length) _ wY;rw[uV.old]at zY;have iC:(idxs (aH D.K (vs.take r)) (vs.take r)).length=r:=by simp[idxs];omega
  generalize idxs (aH D.K (vs.take r)) (vs.take r)=row at *;simp[-ao,pQ,pL,hA,hz,hN,zY];refine⟨⟨iC,by split<;>rfl⟩,by omega,by omega,aX (r+1,_) (by simp[iC]) rfl ⟨by dsimp only;omega,?_⟩ (by dsimp only;omega)⟩
  dsimp only;rw[tk,dY,zV];rw[To]at uV;have:=uV.put (b:=σ.length) (if_pos rfl) (fy (row ++ [(((aH D.K (vs.take r)).idxOf l:Nat):Int)]));have e:fy (row ++ [(((aH D.K (vs.take r)).idxOf l:Nat):Int)])=⟨none,row.map AV.int ++ [.int (((aH D.K (vs.take r)).idxOf l:Nat):Int)],.live⟩:=by simp
  rw[<-e];refine this.zU λi B hB=>?_;unfold tB at hB ⊢;split
  ·rename_i hi;simpa[hi]using hB
  ·rename_i hi;simpa[hi]using hB
 ·have er:r=D.n.aq.toNat:=by omega
  have pQ:¬(r:Int)<D.n.aq:=by omega
  rw[gu (by omega)]at hS hb pL pP vK JX
  have iC:(idxs (aH D.K vs) vs).length=r:=by simp[idxs];omega
  simp[-ao,pQ];refine zW hb (by simp) iC.symm ?_
  have iI:=hS.put (b:=σ.length) (ae rfl) ⟨none,(idxs (aH D.K vs) vs).map .int,.dead⟩;generalize zZ:idxs (aH D.K vs) vs=row at *;generalize aml:az qj σ.length ⟨none,row.map .int,.dead⟩=pR at *;have dQ:=iI.has .v _ rfl;unfold Vd.box at dQ;have e1:cT (p .bl) D.BL.length = .sl (p .bl) D.BL.length 0 D.BL.length:=ab (by omega)
  have ny:=iI.has .bl _ (if_neg λe=>by have h0:D.BL.length=0:=(by dsimp only at e;rw[e];rfl);omega)
  have rO:=iI.has (.rw x) _ (ae sh);unfold Vd.ua at ny;unfold Vd.kn at rO;have LY:∀K,Vd.row {D with K:=K}=D.row:=λ_=>rfl
  have dM:∀K,Vd.bX {D with K:=K}=D.bX:=λ_=>rfl
  have e2:ix (List.range D.BL.length) (x:Int)=x:=by rw[aT (by simpa using sh)];simp
  have e3:ix (List.range D.BL.length) (0+(x:Int)*1)=x:=by rw[<-e2];congr 1;omega
  have e4:ix (List.range (D.row x).length) (c:Int)=c:=by rw[aT (by simpa using ox)];simp
  have e5:ix (List.range (D.row x).length) (0+(c:Int)*1)=c:=by rw[<-e4];congr 1;omega
  simp only[LY,dM]at ny rO;simp[-ao,dQ,e1,ny,rO,LY,dM,e2,e3,e4,e5,sh,ox];have vL:∀i B,O i=some B->tB (tB O σ.length (fy row)) σ.length ⟨none,row.map .int,.dead⟩ i=some B:=λi B hB=>by
   have h1:=h.lt (t:=.old i) hB;rw[h.old]at h1;simp[tB,show i ≠ σ.length by omega,hB]
  have amm:=iI.lt (t:=.rw x) (ae sh)
  by_cases hz:D.bX x c=[]
  ·have e6:cT (p (.cl x c)) (D.bX x c).length = .ah:=by rw[hz];rfl
   have LW:∀B:ag,al (pR ++ [B]) (p (.rw x))=_:=λB=>gn (r:=[B]) rO;simp[-ao,e6,LW,e2,e3,e4,e5,sh,ox];refine⟨by omega,λt=>if t = .cl x c then pR.length else p t,by simp,?_⟩
   have hw:[row] ≠ []:=by simp
   have pz:∀t,t ≠ Tg.cl x c->(λt=>if t=Tg.cl x c then pR.length else p t) t=p t:=λt ht=>ab ht
   have w5:(λt=>if t=Tg.cl x c then pR.length else p t) (.cl x c)=pR.length:=ae rfl
   generalize (λt=>if t=Tg.cl x c then pR.length else p t)=p' at *
   have amn:p (.rw x)<(pR ++ [(⟨none,[wI row],.live⟩:ag)]).length:=by simp;omega
   have ho:VS (Vd.dh {D with K:=aH D.K vs} x c [row]) O p' _:=(iI.dh sh ox pz hw (τ:=az (pR ++ [⟨none,[wI row],.live⟩]) (p (.rw x)) ((Vd.dh {D with K:=aH D.K vs} x c [row]).kn p' x)) (by rw[w5,aP (by omega)];exact iA) (by rw[cH amn])
    (λt B h1 h2 hB=>by rw[aP (iI.ne (t:=.rw x) (ae sh) hB (Ne.symm h1))];exact gn (iI.has t B hB))
    (λt B h1 hB=>by have:=iI.lt hB;omega)).zU vL
   rw[Tx (D:={D with K:=aH D.K vs}) sh ox pz hw,w5]at ho
   simp only[LY,dM]at ho;show VS (D.comb x c y) O p' _;unfold Vd.comb;rw[yV,zZ,show(AV.sl pR.length 1 0 1).cells=[AV.sl pR.length 1 0 1]from rfl,rP,JW,hz];simpa[Vd.dh,LY]using ho
  ·have e6:cT (p (.cl x c)) (D.bX x c).length = .sl (p (.cl x c)) (D.bX x c).length 0 (D.bX x c).length:=ab λe=>hz (dW e)
   have hcv:=iI.has (.cl x c) _ (ae ⟨sh,ox,hz⟩);simp only[dM]at hcv;have e7:p (.cl x c) ≠ p (.rw x):=iI.ne (t:=.cl x c) (u:=.rw x) (ae ⟨sh,ox,hz⟩) (ae sh) (by simp)
   have hg:∀B,al (az pR (p (.cl x c)) B) (p (.rw x))=al pR (p (.rw x)):=λB=>aP e7;simp[-ao,e6,hcv,rO,e2,e3,e4,e5,sh,ox,hg];refine⟨by omega,by omega,p,rfl,?_⟩
   have hw:D.bX x c ++ [row] ≠ []:=by simp
   have ho:VS (Vd.dh {D with K:=aH D.K vs} x c (D.bX x c ++ [row])) O p _:=(iI.dh sh ox (p' :=p) (λ_ _=>rfl) hw (τ:=az (az pR (p (.cl x c)) ⟨none,(D.bX x c).map wI ++ [wI row],.live⟩) (p (.rw x)) ((Vd.dh {D with K:=aH D.K vs} x c (D.bX x c ++ [row])).kn p x)) (by rw[aP e7.symm,cH (iI.lt (t:=.cl x c) (ae ⟨sh,ox,hz⟩))];simp) (by rw[cH (by rw[cg];exact amm)])
    (λt B h1 h2 hB=>by rw[aP (iI.ne (t:=.rw x) (ae sh) hB (Ne.symm h1)),aP (iI.ne (t:=.cl x c) (ae ⟨sh,ox,hz⟩) hB (Ne.symm h2))];exact iI.has t B hB)
    (λt B h1 hB=>iI.ne hB (u:=.cl x c) (ae ⟨sh,ox,hz⟩) h1)).zU vL
   rw[Tx (D:={D with K:=aH D.K vs}) sh ox (λ_ _=>rfl) hw]at ho
   simp only[LY,dM]at ho;show VS (D.comb x c y) O p _;unfold Vd.comb;rw[yV,zZ,show(AV.sl (p (Tg.cl x c)) ((D.bX x c).length+1) 0 ((D.bX x c).length+1)).cells=[AV.sl (p (Tg.cl x c)) ((D.bX x c).length+1) 0 ((D.bX x c).length+1)]from rfl,rP,JW];simpa[Vd.dh,LY]using ho
def Vd.gQ (D:Vd) (x:Nat):List (List Int):=(List.range D.n.aj.toNat).map λ(i:Nat)=>(ix D.K (x:Int)).map λs=>ix (ix D.n.inner s) (i:Int)
structure me (P:List Int->Prop) (D:Vd):Prop where
 ok:tD D
 nd:D.K.Nodup
 pr:∀k∈D.K,P k
 h0:0<D.K.length/\ix D.K 0=D.n.bw
 aR:∀x:Nat,x<D.IN.length->x<D.K.length/\ix D.IN (x:Int)=idxs D.K (D.gQ x)/\∀v∈D.gQ x,v∈D.K
 rl:∀x:Nat,x<D.BL.length->(D.row x).length=D.n.calls.toNat
 bl:∀x c y:Nat,x<D.BL.length->c<D.n.calls.toNat->y<(D.bX x c).length->x<D.K.length/\y<D.K.length/\ix (D.bX x c) (y:Int)=idxs D.K (D.dU x c y)/\∀v∈D.dU x c y,v∈D.K
theorem uW{K r:List (List Int)}{x:Nat}(h:x<K.length):ix (K++r) (x:Int)=ix K (x:Int):=by
 rw[aT (by simp;omega),aT h,List.getElem_append_left]
theorem TA{K r vs:List (List Int)}(h:∀v∈vs,v∈K):idxs (K++r) vs=idxs K vs:=
 gk λv hv=>by rw[Tp (h v hv)]
theorem amo{K:List (List Int)}{l:List Int}(h:K.Nodup):(iB K l).Nodup:=by
 unfold iB;split
 ·exact h
 ·rename_i hl
  rw[sN];exact⟨h,by simp,λa ha b hb=>by simp at hb;subst hb;exact λe=>hl (e▸ha)⟩
theorem TB:∀{vs K:List (List Int)},K.Nodup->(aH K vs).Nodup
 | [],_,h=>h
 |v::vs,K,h=>TB (vs:=vs) (amo h)
theorem me.grow{P:List Int->Prop}{D:Vd}(h:me P D){vs:List (List Int)}(hs:∀v∈vs,D.n.tz v/\v.length=D.n.bw.length) (hp:∀v∈vs,P v):me P {D with K:=aH D.K vs}:=by
 obtain⟨r,e,hr⟩:=wZ vs D.K;have ha:∀x,x<D.K.length->Vd.gQ {D with K:=aH D.K vs} x=D.gQ x:=λx hx=>by
  unfold Vd.gQ;dsimp only;rw[e,uW hx]
 have hn:∀x c y,x<D.K.length->y<D.K.length->Vd.dU {D with K:=aH D.K vs} x c y=D.dU x c y:=λx c y hx hy=>by
  unfold Vd.dU;dsimp only;rw[e,uW hx,uW hy]
 refine⟨h.ok.aH hs,TB h.nd,Fb h.pr hp,?_,λx hx=>?_,h.rl,λx c y hx hc hy=>?_⟩
 ·dsimp only
  rw[e];have:=uW (r:=r) h.h0.1;exact⟨by simp;have:=h.h0.1;omega,by rw[show(0:Int)=((0:Nat):Int)by rfl,this];exact h.h0.2⟩
 ·obtain⟨h1,h2,h3⟩:=h.aR x hx
  rw[ha x h1];dsimp only;rw[e];exact⟨by simp;omega,by rw[TA h3];exact h2,λv hv=>by simp[h3 v hv]⟩
 ·obtain⟨h1,h2,h3,h4⟩:=h.bl x c y hx hc hy
  rw[hn x c y h1 h2];dsimp only;rw[e];exact⟨by simp;omega,by simp;omega,by rw[TA h4];exact h3,λv hv=>by simp[h4 v hv]⟩
theorem JZ{α:Type} [Inhabited α]{l:List α}{v:α}{j:Nat}(hj:j<l.length+1):ix (l ++ [v]) (j:Int)=if j<l.length then ix l (j:Int)else v:=by
 rw[aT (by simp;omega),List.getElem_append]
 split
 ·rename_i h;rw[aT h]
 ·have:j-l.length=0:=by omega
  simp[this]
theorem me.dh{P:List Int->Prop}{D:Vd}(h:me P D){x c y:Nat}(hx:x<D.BL.length) (hc:c<D.n.calls.toNat) (TC:x<D.K.length) (GS:y<D.K.length) (hl:(D.bX x c).length=y) (hv:∀v∈D.dU x c y,v∈D.K):me P (D.dh x c (D.bX x c ++ [idxs D.K (D.dU x c y)])):=by
 have ga : c<(D.row x).length:=by rw[h.rl x hx];exact hc
 refine⟨⟨h.ok.ok,h.ok.st,h.ok.el,h.ok.plc⟩,h.nd,h.pr,h.h0,h.aR,λx' bR =>?_,λx' c' y' bR TD km =>?_⟩
 ·rw[uU hx]
  exact h.rl x' (by simpa[Vd.dh]using bR)
 ·have AX:x' < D.BL.length:=by simpa[Vd.dh]using bR
  rw[w3 hx ga]at km ⊢;show _/\_/\_=idxs D.K (D.dU x' c' y')/\∀v∈D.dU x' c' y', v∈D.K
  by_cases e:x' = x/\c' = c
  ·rw[ae e]at km ⊢
   obtain⟨rfl,rfl⟩:=e;simp at km;rw[JZ km]
   by_cases aK:y' < (D.bX x' c').length
   ·rw[ae aK]
    exact h.bl x' c' y' AX TD aK
   ·have:y' = y:=by omega
    subst this;rw[ab aK];exact⟨TC,GS,rfl,hv⟩
  ·rw[ab e]at km ⊢
   exact h.bl x' c' y' AX TD km
theorem tD.J0{D:Vd}(h:tD D){x c y:Nat}(hx:x<D.K.length) (hy:y<D.K.length) (hc:(c:Int)<D.n.calls):∀v∈D.dU x c y,D.n.tz v/\v.length=D.n.bw.length:=λv hv=>by
 obtain⟨r,hr,rfl⟩:=cU.1 hv;have:=cA.1 hr;exact h.qu hx hy ⟨by omega,hc⟩ ⟨by omega,by omega⟩
theorem tD.J1{D:Vd}(h:tD D){x:Nat}(hx:x<D.K.length):∀v∈D.gQ x,D.n.tz v/\v.length=D.n.bw.length:=λv hv=>by
 obtain⟨i,hi,rfl⟩:=cU.1 hv;have:=cA.1 hi;have hk:=h.kx hx;refine⟨λs hs=>?_,by rw[dR];exact hk.2⟩
 obtain⟨t,ht,rfl⟩:=cU.1 hs;have h1:=hk.1 t ht;exact h.ok.inner t i h1.1 h1.2 (by omega) (by omega)
structure GU (P:List Int->Prop) (n:ak) (plc:List Int):Prop where
 aft:∀k,P k->∀i,0<=i->i<n.aj->P (k.map λs=>ix (ix n.inner s) i)
 qu:∀k m,P k->P m->∀c r,0<=c->c<n.calls->0<=r->r<n.aq->P (k.map (n.qu plc m c r))
theorem me.kx{P:List Int->Prop}{D:Vd}(h:me P D){x:Nat}(hx:x<D.K.length):P (ix D.K (x:Int)):=h.pr _ (aU (by omega) (by omega))
theorem me.comb{P:List Int->Prop}{D:Vd}(h:me P D) (hP:GU P D.n D.plc){x c y:Nat}(hx:x<D.BL.length) (hc:c<D.n.calls.toNat) (TC:x<D.K.length) (GS:y<D.K.length) (hl:(D.bX x c).length=y):me P (D.comb x c y):=by
 have h1:=h.grow (vs:=D.dU x c y) (h.ok.J0 TC GS (by omega)) λv hv=>by
  obtain⟨r,hr,rfl⟩:=cU.1 hv;have:=cA.1 hr;exact hP.qu _ _ (h.kx TC) (h.kx GS) c r (by omega) (by omega) (by omega) (by omega)
 obtain⟨r,e,hr⟩:=wZ (D.dU x c y) D.K;have hn:Vd.dU {D with K:=aH D.K (D.dU x c y)} x c y=D.dU x c y:=by
  show(List.range D.n.aq.toNat).map (λ(r:Nat)=>(ix (aH D.K (D.dU x c y)) (x:Int)).map (D.n.qu D.plc (ix (aH D.K (D.dU x c y)) (y:Int)) c r))=_;rw[e,uW TC,uW GS]
  rfl
 have h2:=h1.dh (x:=x) (c:=c) (y:=y) hx hc (by dsimp only;rw[e];simp;omega) (by dsimp only;rw[e];simp;omega) hl (by rw[hn];exact λv hv=>tC (.inl hv))
 rw[hn]at h2;exact h2
theorem Ff{D:Vd}{x c y:Nat}(hx:x<D.BL.length) (hc:c<(D.row x).length) (x' c' : Nat):((D.comb x c y).bX x' c').length=(D.bX x' c').length+if x' = x/\c' = c then 1 else 0:=by
 have:(D.comb x c y).bX x' c' = (Vd.dh {D with K:=aH D.K (D.dU x c y)} x c (D.bX x c ++ [idxs (aH D.K (D.dU x c y)) (D.dU x c y)])).bX x' c' :=rfl
 rw[this,w3 (D:={D with K:=aH D.K (D.dU x c y)}) hx hc]
 split
 ·rename_i e;rw[e.1,e.2];simp
 ·rfl
theorem TE{D:Vd}{x c y:Nat}:∃r,(D.comb x c y).K=D.K++r/\r.length<=D.n.aq.toNat:=by
 obtain⟨r,e,hr⟩:=wZ (D.dU x c y) D.K;exact⟨r,e,by simpa[Vd.dU]using hr⟩
theorem z6{D:Vd}{x c y:Nat}:(D.comb x c y).BL.length=D.BL.length:=by simp[Vd.comb]
theorem amp{D:Vd}{x c y:Nat}(hx:x<D.BL.length) (z:Nat):((D.comb x c y).row z).length=(D.row z).length:=uU (D:={D with K:=aH D.K (D.dU x c y)}) hx z
structure vM (D:Vd) (x y c:Nat):Prop where
 bl:D.BL.length=x+1
 lo:∀x' c', x' < x->c' < D.n.calls.toNat->(D.bX x' c').length=if x' < y\/(x' = y/\c' < c)then x+1 else x
 hi:∀c', c' < D.n.calls.toNat->(D.bX x c').length=if c' < c then y+1 else y
theorem vM.next{D:Vd}{x y:Nat}(h:vM D x y D.n.calls.toNat):vM D x (y+1) 0:=by
 refine⟨h.bl,λx' c' h1 h2=>?_,λc' h2=>?_⟩
 ·rw[h.lo x' c' h1 h2]
  by_cases e:x' < y\/x' = y
  ·rw[ae (by omega),ae (by omega)]
  ·rw[ab (by omega),ab (by omega)]
 ·rw[h.hi c' h2,ae h2,ab (by omega)]
abbrev J2 (b:Nat) (x:Nat):List AV:=[.ptr b 16 0,.int x,.aM,.aM,.aM,.aM,.aM,.aM,.aM,.aM,.aM,.aM,.aM]
def z7:IC:=(.seq (.seq (.aa Sh)
 (.block 4 (.loop Si)))
 (.seq (.aa Sj)
 (.cond 99 (.seq (.aa Sl)
 .ret) .skip)))
theorem vM.one{D:Vd}{x y c:Nat}(h:vM D x y c) (hc:c<D.n.calls.toNat) (hr:∀z,z<D.BL.length->(D.row z).length=D.n.calls.toNat) (hy:y=x):vM (D.comb x c y) x y (c+1):=by
 have hb:=h.bl;have lL:∀x' c', ((D.comb x c y).bX x' c').length=(D.bX x' c').length+if x' = x/\c' = c then 1 else 0:=λx' c' =>Ff (by omega) (by rw[hr x (by omega)];exact hc) x' c'
 refine⟨by rw[z6];exact hb,λx' c' h1 h2=>?_,λc' h2=>?_⟩
 ·rw[lL,h.lo x' c' h1 h2,ab (show ¬(x' = x/\c' = c)by omega),ae (by omega),ae (by omega)]
 ·rw[lL,h.hi c' h2]
  by_cases e:c' = c
  ·rw[ab (by omega),ae (by omega),ae (by omega)]
  ·rw[ab (show ¬(x=x/\c' = c)by omega)]
   by_cases e2:c' < c
   ·rw[ae e2,ae (by omega)]
   ·rw[ab e2,ab (by omega)]<;>omega
theorem vM.two{D:Vd}{x y c:Nat}(h:vM D x y c) (hc:c<D.n.calls.toNat) (hr:∀z,z<D.BL.length->(D.row z).length=D.n.calls.toNat) (hy:y<x):vM ((D.comb x c y).comb y c x) x y (c+1):=by
 have hb:=h.bl;have lL:∀x' c', ((D.comb x c y).bX x' c').length=(D.bX x' c').length+if x' = x/\c' = c then 1 else 0:=λx' c' =>Ff (by omega) (by rw[hr x (by omega)];exact hc) x' c'
 have nm:∀x' c', (((D.comb x c y).comb y c x).bX x' c').length=((D.comb x c y).bX x' c').length+if x' = y/\c' = c then 1 else 0:=λx' c' =>Ff (by rw[z6];omega) (by rw[amp (by omega),hr y (by omega)];exact hc) x' c'
 refine⟨by rw[z6,z6];exact hb,λx' c' h1 h2=>?_,λc' h2=>?_⟩
 ·rw[nm,lL,h.lo x' c' h1 h2,ab (show ¬(x' = x/\c' = c)by omega)]
  by_cases e:x' = y/\c' = c
  ·rw[ae e,ab (by omega),ae (by omega)]
  ·rw[ab e]
   by_cases e2:x' < y\/x' = y/\c' < c
   ·rw[ae e2,ae (by omega)]
   ·rw[ab e2,ab (by omega)]<;>omega
 ·rw[nm,lL,h.hi c' h2,ab (show ¬(x=y/\c' = c)by omega)]
  by_cases e:c' = c
  ·rw[ab (by omega),ae (by omega),ae (by omega)]
  ·rw[ab (show ¬(x=x/\c' = c)by omega)]
   by_cases e2:c' < c
   ·rw[ae e2,ae (by omega)]
   ·rw[ab e2,ab (by omega)]<;>omega
structure Fg (P:List Int->Prop) (n:ak) (plc:List Int) (O:Nat->Option ag) (b x:Nat) (D:Vd) (p:Tg->Nat) (σ:List ag):Prop where
 s:VS D O p σ
 v:me P D
 n:D.n=n
 plc:D.plc=plc
 p:p .v=b
 i:D.IN.length=x+1
 x:x<D.K.length
theorem Fg.comb{P:List Int->Prop}{n:ak}{plc:List Int}{O:Nat->Option ag}{b x:Nat}{D:Vd}{p:Tg->Nat}{σ:List ag}(h:Fg P n plc O b x D p σ) (hP:GU P n plc){y c z:Nat}(hy:y<D.BL.length) (hz:z<D.K.length) (GS:y<D.K.length) (hc:c<n.calls.toNat) (hl:(D.bX y c).length=z) (hK:D.K.length<=1000) (uk:z<=1000) :
  ∃τ p', L zD [.ptr b 16 0,.int y,.int c,.int z] σ=some (.bS [],τ)/\Fg P n plc O b x (D.comb y c z) p' τ:=by
 have hn:=h.n;have hp:=h.plc;have lL:c<D.n.calls.toNat:=by rw[hn];exact hc
 have h1:=amk D O p σ h.s h.v.ok y c z GS hz (by omega) hy (by rw[h.v.rl y hy];exact lL) hK (by omega)
 obtain⟨r,τ,h2,rfl,p', h3,h4⟩:=dS h1;rw[h.p]at h2 h3;obtain⟨e,he,_⟩:=TE (D:=D) (x:=y) (c:=c) (y:=z);exact⟨τ,p', h2,h4,h.v.comb (by rw[hn,hp];exact hP) hy lL GS hz hl,hn,hp,h3,h.i,by rw[he];simp;have:=h.x;omega⟩
theorem amq{P:List Int->Prop}{n:ak}{plc:List Int}(hP:GU P n plc){O:Nat->Option ag}{x b:Nat}{Q:Ex->St->Prop}
  (D:Vd) (p:Tg->Nat) (σ:List ag) (hS:Fg P n plc O b x D p σ) (hK:D.K.length<=600) (hl:vM D x 0 0)
  (h1:∀D' p' τ,Fg P n plc O b x D' p' τ->vM D' x (x+1) 0->D'.K.length<=512->Q .ft ⟨J2 b x,none,τ⟩)
  (h2:∀D' p' τ,Fg P n plc O b x D' p' τ->512<D'.K.length->Q .ret ⟨[.aM,.aM,.aM,.aM,.aM,.aM,.aM,.aM,.aM,.aM,.aM,.aM,.bool false],none,τ⟩):WK L z7 (J2 b x) none σ Q:=by
 unfold z7;have hx0:=hS.x;have oG:=hS.v.ok.ok;rw[hS.n]at oG;have Yh:=oG.calls;have hnr:=oG.aq;simp[-ao];refine⟨by omega,?_⟩
 refine bu (λq:Nat×List ag=>[(6,.int q.1)]) (λq=>q.2) (λq=>q.1<=x+1/\∃D' p', Fg P n plc O b x D' p' q.2/\D'.K.length<=600/\vM D' x q.1 0) (λq=>x+1-q.1) (0,σ) (by simp[bY]) ⟨by simp,D,p,hS,hK,hl⟩ ?_
 rintro⟨y,qj⟩ ⟨y0,D1,p1,xP,LZ,sd⟩;dsimp only at y0 xP sd ⊢;have dQ:=xP.s.has .v _ rfl;unfold Vd.box at dQ;rw[xP.p,xP.n]at dQ
 by_cases hy:y<x+1
 ·have km :=bH (show(y:Int)<(x:Int)+1 by omega)
  simp[-ao,km, dQ];refine bu (λq:Nat×List ag=>[(8,.int q.1)]) (λq=>q.2) (λq=>q.1<=n.calls.toNat/\∃D' p', Fg P n plc O b x D' p' q.2/\D'.K.length<=600/\vM D' x y q.1) (λq=>n.calls.toNat-q.1) (0,qj) (by simp[bY]) ⟨by simp,D1,p1,xP,LZ,sd⟩ ?_
  rintro⟨c,pR⟩ ⟨c0,D2,p2,iI,hK2,lY⟩;dsimp only at c0 iI lY ⊢
  by_cases hc:c<n.calls.toNat
  ·have ga :=bH (show(c:Int)<n.calls by omega)
   have nm:c<D2.n.calls.toNat:=by rw[iI.n];exact hc
   have ny:=lY.bl;have AX:=iI.x;obtain⟨gr,p3,Xd,mq⟩:=iI.comb hP (y:=x) (c:=c) (z:=y) (by omega) (by omega) AX hc (by rw[lY.hi c nm,ab (by omega)]) (by omega) (by omega)
   obtain⟨e1,pP,Fe⟩:=TE (D:=D2) (x:=x) (c:=c) (y:=y);rw[iI.n]at Fe;have apq:(D2.comb x c y).K.length<=664:=by rw[pP,bz];omega
   by_cases hyx:y<x
   ·have J3 :=bH (show(y:Int)<(x:Int)by omega)
    obtain⟨Bb,p4,hC2,Fh⟩:=mq.comb hP (y:=y) (c:=c) (z:=x) (by rw[z6];omega) mq.x (by have:=mq.x;omega) hc (by rw[Ff (by omega) (by rw[iI.v.rl x (by omega)];exact nm),lY.lo y c hyx nm,ab (by omega),ab (by omega)]<;>omega) (by omega) (by omega)
    have Xf:=lY.two nm iI.v.rl hyx;have z8:=Fh.s.has .v _ rfl;unfold Vd.box at z8;rw[Fh.p,Fh.n]at z8;simp[-ao,ga, J3, Xd,hC2,z8];generalize (D2.comb x c y).comb y c x=D4 at *;exact⟨λh=>h2 D4 p4 Bb Fh (by omega),λh=>⟨by omega,aX (c+1,Bb) (by simp) rfl ⟨by dsimp only;omega,D4,⟨p4,Fh⟩,by omega,Xf⟩ (by dsimp only;omega)⟩⟩
   ·have J3 :=gl (show ¬(y:Int)<(x:Int)by omega)
    have Xf:=lY.one nm iI.v.rl (by omega)
    have z8:=mq.s.has .v _ rfl;unfold Vd.box at z8;rw[mq.p,mq.n]at z8;simp[-ao,ga, J3, Xd,z8];generalize D2.comb x c y=D4 at *;exact⟨λh=>h2 D4 p3 gr mq (by omega),λh=>⟨by omega,aX (c+1,gr) (by simp) rfl ⟨by dsimp only;omega,D4,⟨p3,mq⟩,by omega,Xf⟩ (by dsimp only;omega)⟩⟩
  ·have ga :=gl (show ¬(c:Int)<n.calls by omega)
   have ec:c=D2.n.calls.toNat:=by rw[iI.n];omega
   rw[ec]at lY;have L2:=lY.next
   simp[-ao,ga];exact⟨by omega,aX (y+1,pR) (by simp) rfl ⟨by dsimp only;omega,D2,⟨p2,iI⟩,hK2,L2⟩ (by dsimp only;omega)⟩
 ·have ey:y=x+1:=by omega
  subst ey;simp[-ao,dQ];exact⟨λh=>h2 D1 p1 qj xP (by omega),λh=>h1 D1 p1 qj xP sd (by omega)⟩
theorem VS.step{D D' : Vd}{O:Nat->Option ag}{p p' : Tg->Nat}{σ τ:List ag}(h:VS D O p σ) (Ch:Tg->Prop)
  (h1:∀t,¬Ch t->D'.cont O p' t=D.cont O p t/\p' t=p t)
  (h2:∀t B,Ch t->D'.cont O p' t=some B->al τ (p' t)=some B)
  (h3:∀t B,¬Ch t->D.cont O p t=some B->al τ (p t)=some B)
  (h4:∀t B,Ch t->D'.cont O p' t=some B->((∃A,D.cont O p t=some A)/\p' t=p t)\/σ.length<=p' t)
  (h5:∀t u,Ch t->Ch u->σ.length<=p' t->p' t=p' u->t=u)
  (h6:∀i,¬Ch (.old i)):VS D' O p' τ:=by
 have key:∀t B,D'.cont O p' t=some B->((∃A,D.cont O p t=some A)/\p' t=p t)\/(Ch t/\σ.length<=p' t):=λt B hB=>by
  by_cases hc:Ch t
  ·exact(h4 t B hc hB).imp id λq=>⟨hc,q⟩
  ·obtain⟨e1,e2⟩:=h1 t hc
   rw[e1]at hB;exact .inl ⟨⟨B,hB⟩,e2⟩
 refine⟨λt B hB=>?_,λt u A B hA hB e=>?_,λi=>by rw[(h1 _ (h6 i)).2];exact h.old i⟩
 ·by_cases hc:Ch t
  ·exact h2 t B hc hB
  ·obtain⟨e1,e2⟩:=h1 t hc
   rw[e1]at hB;rw[e2];exact h3 t B hc hB
 ·rcases key t A hA with⟨⟨A', uT⟩,e1⟩|⟨c1,e1⟩
  ·rcases key u B hB with⟨⟨B', o9⟩,e2⟩|⟨c2,e2⟩
   ·exact h.inj t u A' B' uT o9 (by rw[<-e1,<-e2];exact e)
   ·have:=h.lt uT; omega
  ·rcases key u B hB with⟨⟨B', o9⟩,e2⟩|⟨c2,e2⟩
   ·have:=h.lt o9; omega
   ·exact h5 t u c1 c2 e1 e
def vN:IC:=(.seq (.aa Sg) z7)
def J4:IC:=(.seq (.aa Sf) vN)
def Vd.eO (D:Vd) (row:List Int):Vd:={D with IN:=D.IN ++ [row]}
theorem VS.eO{D:Vd}{O:Nat->Option ag}{p p' : Tg->Nat}{σ τ:List ag}(h:VS D O p σ){row:List Int}(hp:∀t,t ≠ .aR->p' t=p t)
  (hi:al τ (p' .aR)=some ⟨none,(D.IN ++ [row]).map wI,.live⟩) (hv:al τ (p .v)=some ((D.eO row).box p')) (h3:∀t B,t ≠ .v->t ≠ .aR->D.cont O p t=some B->al τ (p t)=some B)
  (h4:(D.IN ≠ []/\p' .aR=p .aR)\/σ.length<=p' .aR):VS (D.eO row) O p' τ:=by
 have eZ:(D.eO row).cont O p' .aR=some ⟨none,(D.IN ++ [row]).map wI,.live⟩:=ab (by simp[Vd.eO])
 refine h.step (λt=>t = .v\/t = .aR) (λt ht=>?_) (λt B ht hB=>?_) (λt B ht hB=>h3 t B (λe=>ht (.inl e)) (λe=>ht (.inr e)) hB) (λt B ht hB=>?_) (λt u ht hu hl e=>?_) λi=>by simp
 ·have h1:t ≠ .v:=λe=>ht (.inl e)
  have h2:t ≠ .aR:=λe=>ht (.inr e);refine⟨?_,hp t h2⟩;cases t with
  |v=>exact absurd rfl h1
  |aR=>exact absurd rfl h2
  |bl=>
   show(if D.BL=[]then none else some ((D.eO row).ua p'))=if D.BL=[]then none else some (D.ua p)
   have:(D.eO row).ua p' = D.ua p:=by
    unfold Vd.ua;simp only[λy=>hp (.rw y) (by simp)]
    rfl
   rw[this]
  |rw x=>
   show(if x<D.BL.length then some ((D.eO row).kn p' x)else none)=if x<D.BL.length then some (D.kn p x)else none
   have:(D.eO row).kn p' x=D.kn p x:=by
    unfold Vd.kn;simp only[λy=>hp (.cl x y) (by simp)]
    rfl
   rw[this]
  |_=>rfl
 ·rcases ht with rfl|rfl
  ·rw[hp _ (by simp),hv];exact hB
  ·rw[eZ]at hB;rw[hi];exact hB
 ·rcases ht with rfl|rfl
  ·exact .inl ⟨⟨_,rfl⟩,hp _ (by simp)⟩
  ·exact h4.imp (λq=>⟨⟨_,ab q.1⟩,q.2⟩) id
 ·rcases ht with rfl|rfl
  ·rw[hp _ (by simp)]at hl
   have:=h.lt (t:=.v) rfl;omega
  ·rcases hu with rfl|rfl
   ·rw[hp .v (by simp)]at e
    have:=h.lt (t:=.v) rfl;omega
   ·rfl
theorem amr{Q:Ex->St->Prop}{O:Nat->Option ag}{x:Nat}{row:List Int}
  (D:Vd) (p:Tg->Nat) (σ:List ag) (hS:VS D O p σ) (hx:x<=1000) (hI:D.IN.length=x) {i j:AV}
  (h1:∀p' τ,VS (D.eO row) O p' τ->p' .v=p .v->WK L vN (J2 (p .v) x) none τ Q):WK L J4 [.ptr (p .v) 16 0,.int x,i,j,wI row,.aM,.aM,.aM,.aM,.aM,.aM,.aM,.aM] none σ Q:=by
 unfold J4;have hv:=hS.has .v _ rfl;unfold Vd.box at hv;have w1:(wI row).cells=[wI row]:=rfl;have w2:bB (wI row)=true:=rfl;have l1:=hS.lt (t:=.v) rfl
 by_cases xQ:D.IN=[]
 ·have e2:cT (p .aR) D.IN.length = .ah:=by rw[xQ];rfl
  have b1:∀B:ag,al (σ ++ [B]) (p .v)=_:=λB=>gn (r:=[B]) hv;simp[-ao,hv,e2,b1,w1,w2];have pz:∀t,t ≠ Tg.aR->(λt=>if t=Tg.aR then σ.length else p t) t=p t:=λt ht=>ab ht
  have w5:(λt=>if t=Tg.aR then σ.length else p t) .aR=σ.length:=ae rfl
  generalize (λt=>if t=Tg.aR then σ.length else p t)=p' at *
  have l3:p .v<(σ ++ [(⟨none,[wI row],.live⟩:ag)]).length:=by simp;omega
  have xR:(D.eO row).box p' = _:=rfl;refine h1 p' _ (hS.eO pz (by rw[w5,aP (by omega),iA,xQ];rfl) ?_ (λt B h1 h2 hB=>by rw[aP (hS.ne (t:=.v) rfl hB (Ne.symm h1))];exact gn (hS.has t B hB)) (.inr (by omega))) (pz _ (by simp))
  rw[cH l3];unfold Vd.box;simp[Vd.eO,xQ,w5,pz,cT]
 ·have eZ:=hS.has .aR _ (ab xQ)
  have vO:D.IN.length ≠ 0:=λe=>xQ (dW e);have e2:cT (p .aR) D.IN.length = .sl (p .aR) D.IN.length 0 D.IN.length:=ab (by omega)
  have n1:p .aR ≠ p .v:=hS.ne (t:=.aR) (u:=.v) (ab xQ) rfl (by simp)
  have b1:∀(Q:List ag) B,al (az Q (p .aR) B) (p .v)=al Q (p .v):=λQ B=>aP n1;have l2:=hS.lt (t:=.aR) (ab xQ);simp[-ao,hv,e2,eZ,b1,w1,w2];refine⟨by omega,h1 p _ (hS.eO (λ_ _=>rfl) (by rw[aP n1.symm,cH l2];simp) ?_ (λt B h1 h2 hB=>by rw[aP (hS.ne (t:=.v) rfl hB (Ne.symm h1)),aP (hS.ne (t:=.aR) (ab xQ) hB (Ne.symm h2))];exact hS.has t B hB) (.inl ⟨xQ,rfl⟩)) rfl⟩
  rw[cH (by rw[cg];exact l1)]
  unfold Vd.box;simp[Vd.eO,cT]
def Vd.bM (D:Vd):Vd:={D with BL:=D.BL ++ [List.replicate D.n.calls.toNat []]}
theorem uX{D:Vd}{y:Nat}:D.bM.row y=if y=D.BL.length then List.replicate D.n.calls.toNat []else D.row y:=by
 unfold Vd.row Vd.bM;dsimp only
 by_cases h:y<D.BL.length+1
 ·rw[JZ h]
  by_cases e:y<D.BL.length
  ·rw[ae e,ab (by omega)]
  ·rw[ab e,ae (by omega)]
 ·rw[ab (by omega)]
  unfold ix;rw[gL,gL,jH (by simp;omega),jH (by omega)]
theorem lq{α:Type} [Inhabited α]{k c:Nat}{a:α}(h:c<k):ix (List.replicate k a) (c:Int)=a:=by
 rw[aT (by simpa using h)];simp
theorem w6{D:Vd}{y c:Nat}:D.bM.bX y c=if y=D.BL.length then[]else D.bX y c:=by
 unfold Vd.bX;rw[uX];split
 ·by_cases h:c<D.n.calls.toNat
  ·exact lq h
  ·unfold ix
   rw[gL,jH (by simp;omega)];rfl
 ·rfl
theorem VS.bM{D:Vd}{O:Nat->Option ag}{p p' : Tg->Nat}{σ τ:List ag}(h:VS D O p σ) (hp:∀t,t ≠ .bl->t ≠ .rw D.BL.length->p' t=p t)
  (hi:al τ (p' .bl)=some (D.bM.ua p')) (hr:al τ (p' (.rw D.BL.length))=some ⟨none,List.replicate D.n.calls.toNat .ah,.live⟩) (hv:al τ (p .v)=some (D.bM.box p'))
  (h3:∀t B,t ≠ .v->t ≠ .bl->D.cont O p t=some B->al τ (p t)=some B)
  (h4:(D.BL ≠ []/\p' .bl=p .bl)\/σ.length<=p' .bl) (h5:σ.length<=p' (.rw D.BL.length)) (h6:p' .bl ≠ p' (.rw D.BL.length)):VS D.bM O p' τ:=by
 have hl:D.bM.BL.length=D.BL.length+1:=by simp[Vd.bM]
 have eZ:D.bM.cont O p' .bl=some (D.bM.ua p'):=ab (by simp[Vd.bM])
 have rO:D.bM.cont O p' (.rw D.BL.length)=some ⟨none,List.replicate D.n.calls.toNat .ah,.live⟩:=by
  show(if D.BL.length<D.bM.BL.length then some (D.bM.kn p' D.BL.length)else none)=_
  rw[hl,ae (by omega)]
  unfold Vd.kn;rw[uX,ae rfl]
  congr 2
  apply mG (by simp)
  intro i h1 h2;simp[w6,cT]
 have pM:=h.lt (t:=.v) rfl;refine h.step (λt=>t = .v\/t = .bl\/t = .rw D.BL.length) (λt ht=>?_) (λt B ht hB=>?_) (λt B ht hB=>h3 t B (λe=>ht (.inl e)) (λe=>ht (.inr (.inl e))) hB) (λt B ht hB=>?_) (λt u ht hu aK e=>?_) λi=>by simp
 ·have h1:t ≠ .v:=λe=>ht (.inl e)
  have h2:t ≠ .bl:=λe=>ht (.inr (.inl e));have r8 : t ≠ .rw D.BL.length:=λe=>ht (.inr (.inr e));refine⟨?_,hp t h2 r8⟩;cases t with
  |v=>exact absurd rfl h1
  |bl=>exact absurd rfl h2
  |rw x=>
   have hx:x ≠ D.BL.length:=λe=>r8 (by rw[e])
   show(if x<D.bM.BL.length then some (D.bM.kn p' x)else none)=if x<D.BL.length then some (D.kn p x)else none
   have:D.bM.kn p' x=D.kn p x:=by
    unfold Vd.kn;simp only[λy=>hp (.cl x y) (by simp) (by simp),uX,w6,ab hx]
   rw[this,hl]
   by_cases e:x<D.BL.length
   ·rw[ae e,ae (by omega)]
   ·rw[ab e,ab (by omega)]
  |cl x c=>
   show(if x<D.bM.BL.length/\c<(D.bM.row x).length/\D.bM.bX x c ≠ []then some (⟨none,(D.bM.bX x c).map wI,.live⟩:ag)else none)=if x<D.BL.length/\c<(D.row x).length/\D.bX x c ≠ []then some ⟨none,(D.bX x c).map wI,.live⟩else none
   rw[hl,uX,w6]
   by_cases e:x=D.BL.length
   ·rw[ae e,ae e,ab (by simp),ab (by omega)]
   ·rw[ab e,ab e]
    by_cases e2:x<D.BL.length
    ·simp only[e2,show x<D.BL.length+1 by omega]
    ·simp only[e2,show ¬x<D.BL.length+1 by omega]
  |_=>rfl
 ·rcases ht with rfl|rfl|rfl
  ·rw[hp _ (by simp) (by simp),hv];exact hB
  ·rw[eZ]at hB;rw[hi];exact hB
  ·rw[rO]at hB;rw[hr];exact hB
 ·rcases ht with rfl|rfl|rfl
  ·exact .inl ⟨⟨_,rfl⟩,hp _ (by simp) (by simp)⟩
  ·exact h4.imp (λq=>⟨⟨_,ab q.1⟩,q.2⟩) id
  ·exact .inr h5
 ·have pv:=hp .v (by simp) (by simp)
  rcases ht with rfl|rfl|rfl
  ·omega
  ·rcases hu with rfl|rfl|rfl
   ·omega
   ·rfl
   ·exact absurd e h6
  ·rcases hu with rfl|rfl|rfl
   ·omega
   ·exact absurd e.symm h6
   ·rfl
theorem TF{D:Vd}{p p' : Tg->Nat}(hp:∀t,t ≠ .bl->t ≠ .rw D.BL.length->p' t=p t):D.bM.ua p' = ⟨none,(List.range D.BL.length).map (λx=>AV.sl (p (.rw x)) (D.row x).length 0 (D.row x).length) ++ [AV.sl (p' (.rw D.BL.length)) D.n.calls.toNat 0 D.n.calls.toNat],.live⟩:=by
 unfold Vd.ua;rw[show D.bM.BL.length=D.BL.length+1 by simp[Vd.bM],mI,lg]
 congr 2
 ·refine gk λx hx=>?_
  have:=cA.1 hx;rw[uX,ab (by omega),hp _ (by simp) (by simp;omega)]
 ·simp[uX]
theorem ams{Q:Ex->St->Prop}{O:Nat->Option ag}{x:Nat}
  (D:Vd) (p:Tg->Nat) (σ:List ag) (hS:VS D O p σ) (hn:D.n.Ok) (hx:x<=1000) (hB:D.BL.length=x)
  (h1:∀p' τ,VS D.bM O p' τ->p' .v=p .v->WK L z7 (J2 (p .v) x) none τ Q):WK L vN (J2 (p .v) x) none σ Q:=by
 unfold vN;have hv:=hS.has .v _ rfl;unfold Vd.box at hv;have Yh:=hn.calls;have l1:=hS.lt (t:=.v) rfl
 by_cases y6:D.BL=[]
 ·have e1:cT (p .bl) D.BL.length = .ah:=by rw[y6];rfl
  have b1:∀B C:ag,al (σ ++ [B,C]) (p .v)=_:=λB C=>gn (r:=[B,C]) hv;simp[-ao,hv,e1,b1];refine⟨by omega,?_⟩
  have pz:∀t,t ≠ Tg.bl->t ≠ Tg.rw D.BL.length->(λt=>if t=Tg.bl then σ.length+1 else if t=Tg.rw D.BL.length then σ.length else p t) t=p t:=λt h1 h2=>by
   show(if t=Tg.bl then σ.length+1 else if t=Tg.rw D.BL.length then σ.length else p t)=p t
   rw[ab h1,ab h2]
  have L3:(λt=>if t=Tg.bl then σ.length+1 else if t=Tg.rw D.BL.length then σ.length else p t) .bl=σ.length+1:=ae rfl
  have TG:(λt=>if t=Tg.bl then σ.length+1 else if t=Tg.rw D.BL.length then σ.length else p t) (.rw D.BL.length)=σ.length:=by simp
  generalize (λt=>if t=Tg.bl then σ.length+1 else if t=Tg.rw D.BL.length then σ.length else p t)=p' at *
  have l4:∀B C:ag,p .v<(σ ++ [B,C]).length:=λB C=>by simp;omega
  have hk:D.BL.length=0:=by rw[y6];rfl
  refine h1 p' _ (hS.bM pz ?_ ?_ ?_ (λt B h1 h2 hB=>by rw[aP (hS.ne (t:=.v) rfl hB (Ne.symm h1))];exact gn (hS.has t B hB)) (.inr (by omega)) (by omega) (by omega)) (pz _ (by simp) (by simp))
  ·rw[L3,aP (by omega),JS,TF pz,TG,hk]
   rfl
  ·rw[TG,aP (by omega),iA]
  ·rw[cH (l4 _ _)]
   unfold Vd.box;simp[Vd.bM,y6,L3,pz,cT]
 ·have ny:=hS.has .bl _ (ab y6)
  unfold Vd.ua at ny;have e1:cT (p .bl) D.BL.length = .sl (p .bl) D.BL.length 0 D.BL.length:=ab λe=>y6 (dW e);have n2:p .bl ≠ p .v:=hS.ne (t:=.bl) (u:=.v) (ab y6) rfl (by simp)
  have b2:∀(Q:List ag) B,al (az Q (p .bl) B) (p .v)=al Q (p .v):=λQ B=>aP n2;have b1:∀B:ag,al (σ ++ [B]) (p .v)=_:=λB=>gn (r:=[B]) hv;have b3:∀B:ag,al (σ ++ [B]) (p .bl)=_:=λB=>gn (r:=[B]) ny;have l3:=hS.lt (t:=.bl) (ab y6);simp[-ao,hv,e1,ny,b1,b2,b3];refine⟨by omega,by omega,?_⟩
  have pz:∀t,t ≠ Tg.bl->t ≠ Tg.rw D.BL.length->(λt=>if t=Tg.rw D.BL.length then σ.length else p t) t=p t:=λt h1 h2=>ab h2
  have L3:(λt=>if t=Tg.rw D.BL.length then σ.length else p t) .bl=p .bl:=by simp
  have TG:(λt=>if t=Tg.rw D.BL.length then σ.length else p t) (.rw D.BL.length)=σ.length:=by simp
  generalize (λt=>if t=Tg.rw D.BL.length then σ.length else p t)=p' at *
  have l4:∀B:ag,p .bl<(σ ++ [B]).length:=λB=>by simp;omega
  have l5:∀B C:ag,p .v<(az (σ ++ [B]) (p .bl) C).length:=λB C=>by rw[cg];simp;omega
  refine h1 p' _ (hS.bM pz ?_ ?_ ?_ (λt B h1 h2 hB=>by rw[aP (hS.ne (t:=.v) rfl hB (Ne.symm h1)),aP (hS.ne (t:=.bl) (ab y6) hB (Ne.symm h2))];exact gn (hS.has t B hB)) (.inl ⟨y6,L3⟩) (by omega) (by omega)) (pz _ (by simp) (by simp))
  ·rw[L3,aP n2.symm,cH (l4 _),TF pz,TG]
  ·rw[TG,aP (by omega),aP (by omega),iA]
  ·rw[cH (l5 _ _)]
   unfold Vd.box;simp[Vd.bM,L3,pz,cT]
end Ab
