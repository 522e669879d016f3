/- Two vectors are combined; and what it leans on. Condition: none. -/
import Derived.Test.YtdenhmniigikcaaGreatN44D
set_option linter.all false
set_option maxRecDepth 100000
set_option maxHeartbeats 4000000
namespace Ab
structure tz (D:Vd):Prop where
 ok:D.n.Ok
 st:∀k∈D.K,D.n.tu k/\k.length=D.n.bj.length
 el:D.n.bj.length<=128
 plc:∀s c,0<=s->s<(D.n.accept.length:Int)->0<=c->c<D.n.calls->ix (ix D.n.call s) c<(D.plc.length:Int)/\0<=ix D.plc (ix (ix D.n.call s) c)/\ix D.plc (ix (ix D.n.call s) c)<(D.n.bj.length:Int)
theorem zJ{n:ao}(hn:n.Ok){l:List Int}(h:n.tu l):dA l:=λx hx=>by
 have:=h x hx;have:=hn.gr;omega
def Vd.dU (D:Vd) (x c y:Nat):List (List Int):=(List.range D.n.aq.toNat).map λ(r:Nat)=>(ix D.K (x:Int)).map (D.n.qn D.plc (ix D.K (y:Int)) c r)
theorem tz.kx{D:Vd}(h:tz D){x:Nat}(hx:x<D.K.length):D.n.tu (ix D.K (x:Int))/\(ix D.K (x:Int)).length=D.n.bj.length:=h.st _ (aZ (by omega) (by omega))
theorem tz.qn{D:Vd}(h:tz D){x y:Nat}{c r:Int}(hx:x<D.K.length) (hy:y<D.K.length) (hc:0<=c/\c<D.n.calls) (hr:0<=r/\r<D.n.aq) :
  D.n.tu ((ix D.K (x:Int)).map (D.n.qn D.plc (ix D.K (y:Int)) c r))/\((ix D.K (x:Int)).map (D.n.qn D.plc (ix D.K (y:Int)) c r)).length=D.n.bj.length:=by
 refine⟨λs hs=>?_,by rw[dR];exact(h.kx hx).2⟩
 obtain⟨t,ht,rfl⟩:=cR.1 hs;have h1:=(h.kx hx).1 t ht;obtain⟨p1,p2,p3⟩:=h.plc t c h1.1 h1.2 hc.1 hc.2;have hy2:=h.kx hy;have h2:=hy2.1 _ (aZ p2 (by omega))
 have h3:=h.ok.push t c h1.1 h1.2 hc.1 hc.2;exact h.ok.pop _ _ r h2.1 h2.2 h3.1 h3.2 hr.1 hr.2
theorem tz.aH{D:Vd}(h:tz D){vs:List (List Int)}(hv:∀v∈vs,D.n.tu v/\v.length=D.n.bj.length):tz {D with K:=aH D.K vs}:=
 ⟨h.ok,EH h.st hv,h.el,h.plc⟩
def Vd.comb (D:Vd) (x c y:Nat):Vd:={D with K:=aH D.K (D.dU x c y),BL:=D.BL.set x ((D.row x).set c (D.bS x c ++ [idxs (aH D.K (D.dU x c y)) (D.dU x c y)]))}
theorem iY{α:Type} [Inhabited α]{l:List α}{k:Nat}{v:α}(hk:k<l.length) (j:Nat):ix (l.set k v) (j:Int)=if j=k then v else ix l (j:Int):=by
 by_cases hj:j<l.length
 ·rw[aS (by simpa using hj),aS hj,List.getElem_set]
  by_cases e:k=j
  ·rw[ab e,ab e.symm]
  ·rw[aa e,aa (Ne.symm e)]
 ·rw[aa (by omega)]
  unfold ix;rw[gG,gG,jF (by simp;omega),jF (by simp;omega)]
def Vd.de (D:Vd) (x c:Nat) (w:List (List Int)):Vd:={D with BL:=D.BL.set x ((D.row x).set c w)}
theorem SN{D:Vd}{x c:Nat}{w:List (List Int)}(hx:x<D.BL.length) (y:Nat):(D.de x c w).row y=if y=x then(D.row x).set c w else D.row y:=iY hx y
theorem uP{D:Vd}{x c:Nat}{w:List (List Int)}(hx:x<D.BL.length) (y:Nat):((D.de x c w).row y).length=(D.row y).length:=by
 rw[SN hx];split
 ·rename_i e;subst e;simp
 ·rfl
theorem wU{D:Vd}{x c:Nat}{w:List (List Int)}(hx:x<D.BL.length) (hc:c<(D.row x).length) (y d:Nat):(D.de x c w).bS y d=if y=x/\d=c then w else D.bS y d:=by
 unfold Vd.bS;rw[SN hx]
 by_cases e:y=x
 ·subst e
  rw[ab rfl,iY hc];simp
 ·rw[aa e,aa λh=>e h.1]
theorem SO{D:Vd}{O:Nat->Option ag}{x c:Nat}{w:List (List Int)}(hx:x<D.BL.length) (hc:c<(D.row x).length){p p' : Tg->Nat}(hp:∀t,t ≠ .cl x c->p' t=p t){t:Tg}(h1:t ≠ .rw x) (h2:t ≠ .cl x c):(D.de x c w).cont O p' t=D.cont O p t:=by
 have hl:(D.de x c w).BL.length=D.BL.length:=by simp[Vd.de]
 have hb:(D.de x c w).BL=[]↔D.BL=[]:=by rw[<-List.length_eq_zero_iff,hl,List.length_eq_zero_iff]
 cases t with
 |v=>
  show some ((D.de x c w).box p')=some (D.box p);unfold Vd.box;rw[hl,hp .pl (by simp),hp .ls (by simp),hp .mp (by simp),hp .aQ (by simp),hp .bl (by simp)]
  rfl
 |pl=>rfl
 |mp=>rfl
 |ls=>rfl
 |aQ=>rfl
 |bl=>
  show(if(D.de x c w).BL=[]then none else some ((D.de x c w).tW p'))=if D.BL=[]then none else some (D.tW p)
  simp only[hb];unfold Vd.tW;rw[hl];simp only[uP hx,λy=>hp (.rw y) (by simp)]
 |rw y=>
  show(if y<(D.de x c w).BL.length then some ((D.de x c w).km p' y)else none)=if y<D.BL.length then some (D.km p y)else none
  rw[hl];have hy:¬y=x:=λe=>h1 (by rw[e])
  unfold Vd.km;have pt:∀d,p' (.cl y d)=p (.cl y d):=λd=>hp _ (by simp[hy])
  simp only[uP hx,wU hx hc,hy,false_and,eG,pt]
 |cl y d=>
  have hn:¬(y=x/\d=c):=λe=>h2 (by rw[e.1,e.2])
  show(if y<(D.de x c w).BL.length/\d<((D.de x c w).row y).length/\(D.de x c w).bS y d ≠ []then some (⟨none,((D.de x c w).bS y d).map wI,.live⟩:ag)else none)=if y<D.BL.length/\d<(D.row y).length/\D.bS y d ≠ []then some ⟨none,(D.bS y d).map wI,.live⟩else none
  rw[hl,uP hx,wU hx hc,aa hn]
 |old i=>rfl
theorem VS.de{D:Vd}{O:Nat->Option ag}{p p' : Tg->Nat}{σ τ:List ag}(h:VS D O p σ){x c:Nat}{w:List (List Int)}(hx:x<D.BL.length) (hc:c<(D.row x).length) (hp:∀t,t ≠ .cl x c->p' t=p t) (hw:w ≠ [])
  (gD:ak τ (p' (.cl x c))=some ⟨none,w.map wI,.live⟩) (rL:ak τ (p (.rw x))=some ((D.de x c w).km p' x))
  (hot:∀t B,t ≠ .rw x->t ≠ .cl x c->D.cont O p t=some B->ak τ (p t)=some B)
  (fc:∀t B,t ≠ .cl x c->D.cont O p t=some B->p t ≠ p' (.cl x c)):VS (D.de x c w) O p' τ:=by
 have hl:(D.de x c w).BL.length=D.BL.length:=by simp[Vd.de]
 have key:∀t B,t ≠ .cl x c->(D.de x c w).cont O p' t=some B->∃A,D.cont O p t=some A:=λt B ht hB=>by
  by_cases h1:t = .rw x
  ·subst h1;exact⟨_,ab hx⟩
  ·rw[SO hx hc hp h1 ht]at hB;exact⟨B,hB⟩
 refine⟨λt B hB=>?_,λt u A B hA hB e=>?_,λi=>by rw[hp _ (by simp)];exact h.old i⟩
 ·by_cases h2:t = .cl x c
  ·subst h2
   have:(D.de x c w).cont O p' (.cl x c)=some ⟨none,w.map wI,.live⟩:=by
    show(if x<(D.de x c w).BL.length/\c<((D.de x c w).row x).length/\(D.de x c w).bS x c ≠ []then some (⟨none,((D.de x c w).bS x c).map wI,.live⟩:ag)else none)=_
    simp only[hl,uP hx,wU hx hc,and_self,dC];rw[ab ⟨hx,hc,hw⟩]
   rw[this]at hB;rw[gD];exact hB
  by_cases h1:t = .rw x
  ·subst h1
   have:(D.de x c w).cont O p' (.rw x)=some ((D.de x c w).km p' x):=ab (by rw[hl];exact hx)
   rw[this]at hB;rw[hp _ h2,rL];exact hB
  ·rw[SO hx hc hp h1 h2]at hB
   rw[hp _ h2];exact hot t B h1 h2 hB
 ·by_cases h1:t = .cl x c
  ·by_cases h2:u = .cl x c
   ·rw[h1,h2]
   ·obtain⟨B', oZ⟩:=key u B h2 hB
    rw[h1,hp _ h2]at e;exact absurd e.symm (fc u B' h2 oZ)
  ·obtain⟨A', uO⟩:=key t A h1 hA
   by_cases h2:u = .cl x c
   ·rw[h2,hp _ h1]at e
    exact absurd e (fc t A' h1 uO)
   ·obtain⟨B', oZ⟩:=key u B h2 hB
    rw[hp _ h1,hp _ h2]at e;exact h.inj t u A' B' uO oZ e
theorem SP{D:Vd}{p p' : Tg->Nat}{x c:Nat}{w:List (List Int)}(hx:x<D.BL.length) (hc:c<(D.row x).length) (hp:∀t,t ≠ .cl x c->p' t=p t) (hw:w ≠ []) :
  (D.de x c w).km p' x=⟨none,((List.range (D.row x).length).map λd=>cQ (p (.cl x d)) (D.bS x d).length).set c (.sl (p' (.cl x c)) w.length 0 w.length),.live⟩:=by
 unfold Vd.km;rw[uP hx]
 congr 1
 apply mC (by simp)
 intro i h1 h2;simp at h1;rw[List.getElem_set];simp only[oN,List.getElem_range,wU hx hc]
 by_cases e:c=i
 ·subst e
  rw[ab rfl];simp only[and_self,dC];exact aa λe=>hw (dW e)
 ·rw[aa e,aa λh=>e h.2.symm,hp _ (by simp;exact λe' =>e e'.symm)]
theorem rM:∀{cs:List AV}{k:Nat}{x:AV},nS cs k [x]=cs.set k x
 | [],0,_=>rfl
 | [],_+1,_=>rfl
 |c::cs,0,x=>by cases cs<;>rfl
 |c::cs,k+1,x=>by rw[List.set_cons_succ,<-rM (cs:=cs)]
theorem Jn{row:List Int}:AV.aE (!decide (row=[])) (row.map AV.int)=wI row:=by unfold wI;simp
theorem ald (D:Vd) (O:Nat->Option ag) (p:Tg->Nat) (σ:List ag) (h:VS D O p σ) (hD:tz D) (x c y:Nat) (hx:x<D.K.length) (hy:y<D.K.length) (hc:(c:Int)<D.n.calls) (sd:x<D.BL.length) (oh:c<(D.row x).length) (hK:D.K.length<=1000) (gD:(D.bS x c).length<=1000) :
  LX L zp [.ptr (p .v) 16 0,.int x,.int c,.int y] σ (λr τ=>r = .bQ []/\∃p', p' .v=p .v/\VS (D.comb x c y) O p' τ):=by
 refine ah1 rfl ?_;have hn:=hD.ok;have I5:=hn.aq;have hv:=h.has .v _ rfl;unfold Vd.box at hv;have qC:∀B:ag,ak (σ ++ [B]) (p .v)=_:=λB=>gi (r:=[B]) hv;simp[-al,qC];have rl:(D.dU x c y).length=D.n.aq.toNat:=by simp[Vd.dU]
 refine bC (λq:Nat×List ag=>[(4,.int q.1),(6,.sl σ.length q.1 0 q.1)]) (λq=>q.2)
  (λq=>q.1<=D.n.aq.toNat/\VS {D with K:=aH D.K ((D.dU x c y).take q.1)} (tw O σ.length (fv (idxs (aH D.K ((D.dU x c y).take q.1)) ((D.dU x c y).take q.1)))) p q.2) (λq=>D.n.aq.toNat-q.1) (0,σ ++ [fv []]) (by simp[bT]) ⟨by simp,by simpa[aH,idxs]using h.push _⟩ ?_
 rintro⟨r,qf⟩ ⟨r0,hS⟩;dsimp only at r0 hS ⊢;generalize yL:D.dU x c y=vs at *;obtain⟨ext,pM,EJ⟩:=wT (vs.take r) D.K;have vG:ix (aH D.K (vs.take r)) (x:Int)=ix D.K (x:Int):=by rw[pM,aS (by simp;omega),aS hx,List.getElem_append_left]
 have Jo:ix (aH D.K (vs.take r)) (y:Int)=ix D.K (y:Int):=by rw[pM,aS (by simp;omega),aS hy,List.getElem_append_left]
 have pH:=hS.view;have hb:=hS.has (.old σ.length) _ wS;rw[hS.old]at hb
 by_cases hr:r<D.n.aq.toNat
 ·have pN:(r:Int)<D.n.aq:=by omega
  have wV:∀v∈vs,D.n.tu v/\v.length=D.n.bj.length:=λv hv=>by
   rw[<-yL]at hv;obtain⟨r', hr', rfl⟩:=cR.1 hv;have:=cy.1 hr';exact hD.qn hx hy ⟨by omega,hc⟩ ⟨by omega,by omega⟩
  have hDr:=hD.aH (vs:=vs.take r) λv hv=>wV v (List.mem_of_mem_take hv);have qj:ix vs (r:Int)=(ix D.K (x:Int)).map (D.n.qn D.plc (ix D.K (y:Int)) c r):=by
   rw[<-yL,Vd.dU,jt (by omega) (by simp;omega)]
   simp[aS (show r<(List.range D.n.aq.toNat).length by simp;omega)]
  have hlx:=hD.kx hx;have hly:=hD.kx hy;have sg:=hD.el;have Jp:(x:Int)<((aH D.K (vs.take r)).length:Int):=by rw[pM];simp;omega
  have hy1:(y:Int)<((aH D.K (vs.take r)).length:Int):=by rw[pM];simp;omega
  have hKl:(aH D.K (vs.take r)).length<=2000:=by rw[pM,bu];have:(vs.take r).length<=r:=List.length_take_le r vs;omega
  have hA:=ak9 (Vd.vcs {D with K:=aH D.K (vs.take r)}) hn x c y r ⟨by omega,Jp⟩ ⟨by omega,hy1⟩ ⟨by omega,hc⟩ ⟨by omega,pN⟩ (by show D.n.tu (ix (aH D.K (vs.take r)) (x:Int));rw[vG];exact hlx.1) (by show D.n.tu (ix (aH D.K (vs.take r)) (y:Int));rw[Jo];exact hly.1) (by show(ix (aH D.K (vs.take r)) (x:Int)).length<=1000;rw[vG];omega)
   (λs s0 s1=>by show _/\_/\_<((ix (aH D.K (vs.take r)) (y:Int)).length:Int);rw[Jo,hly.2];exact hD.plc s c s0 s1 (by omega) hc)
  obtain⟨z,gk,hA,hz⟩:=dS hA;have hz:cv gk true z=some (iL (ix vs (r:Int))):=by
   rw[hz,qj];show some (iL ((ix (aH D.K (vs.take r)) (x:Int)).map (D.n.qn D.plc (ix (aH D.K (vs.take r)) (y:Int)) c r)))=_;rw[vG,Jo]
  have tV:=wV _ (aZ (l:=vs) (n:=(r:Int)) (by omega) (by omega))
  have tk:=lg (w:=vs) (k:=r) (by omega)
  have eu:=EI (K:=D.K) (vs:=vs.take r) (l:=ix vs (r:Int));generalize ix vs (r:Int)=l at *;have SQ:=SG {D with K:=aH D.K (vs.take r)} _ p qf hS l (zJ hn tV.1) (λk hk=>zJ hn (hDr.st k hk).1) (by omega) (λe=>by have h0:(aH D.K (vs.take r)).length=0:=(by dsimp only at e;rw[e];rfl);omega) (by dsimp only;omega)
  obtain⟨rv,τ,hN,rfl,uQ,hlen⟩:=dS SQ;clear SQ;have zK:=uQ.has (.old σ.length) _ wS;rw[uQ.old]at zK;have iv:(idxs (aH D.K (vs.take r)) (vs.take r)).length=r:=by simp[idxs];omega
  generalize idxs (aH D.K (vs.take r)) (vs.take r)=row at *;simp[-al,pN,pH,hA,hz,hN,zK];refine⟨⟨iv,by split<;>rfl⟩,by omega,by omega,ba (r+1,_) (by simp[iv]) rfl ⟨by dsimp only;omega,?_⟩ (by dsimp only;omega)⟩
  dsimp only;rw[tk,eu,zH];rw[SH]at uQ;have:=uQ.put (b:=σ.length) (if_pos rfl) (fv (row ++ [(((aH D.K (vs.take r)).idxOf l:Nat):Int)]));have e:fv (row ++ [(((aH D.K (vs.take r)).idxOf l:Nat):Int)])=⟨none,row.map AV.int ++ [.int (((aH D.K (vs.take r)).idxOf l:Nat):Int)],.live⟩:=by simp
  rw[<-e];refine this.zG λi B hB=>?_;unfold tw at hB ⊢;split
  ·rename_i hi;simpa[hi]using hB
  ·rename_i hi;simpa[hi]using hB
 ·have er:r=D.n.aq.toNat:=by omega
  have pN:¬(r:Int)<D.n.aq:=by omega
  rw[gl (by omega)]at hS hb pH pM vG Jo
  have iv:(idxs (aH D.K vs) vs).length=r:=by simp[idxs];omega
  simp[-al,pN];refine zI hb (by simp) iv.symm ?_
  have iC:=hS.put (b:=σ.length) (ab rfl) ⟨none,(idxs (aH D.K vs) vs).map .int,.dead⟩;generalize zL:idxs (aH D.K vs) vs=row at *;generalize ale:ay qf σ.length ⟨none,row.map .int,.dead⟩=pO at *;have dQ:=iC.has .v _ rfl;unfold Vd.box at dQ;have e1:cQ (p .bl) D.BL.length = .sl (p .bl) D.BL.length 0 D.BL.length:=aa (by omega)
  have ni:=iC.has .bl _ (if_neg λe=>by have h0:D.BL.length=0:=(by dsimp only at e;rw[e];rfl);omega)
  have rL:=iC.has (.rw x) _ (ab sd);unfold Vd.tW at ni;unfold Vd.km at rL;have Ld:∀K,Vd.row {D with K:=K}=D.row:=λ_=>rfl
  have dM:∀K,Vd.bS {D with K:=K}=D.bS:=λ_=>rfl
  have e2:ix (List.range D.BL.length) (x:Int)=x:=by rw[aS (by simpa using sd)];simp
  have e3:ix (List.range D.BL.length) (0+(x:Int)*1)=x:=by rw[<-e2];congr 1;omega
  have e4:ix (List.range (D.row x).length) (c:Int)=c:=by rw[aS (by simpa using oh)];simp
  have e5:ix (List.range (D.row x).length) (0+(c:Int)*1)=c:=by rw[<-e4];congr 1;omega
  simp only[Ld,dM]at ni rL;simp[-al,dQ,e1,ni,rL,Ld,dM,e2,e3,e4,e5,sd,oh];have vH:∀i B,O i=some B->tw (tw O σ.length (fv row)) σ.length ⟨none,row.map .int,.dead⟩ i=some B:=λi B hB=>by
   have h1:=h.lt (t:=.old i) hB;rw[h.old]at h1;simp[tw,show i ≠ σ.length by omega,hB]
  have alf:=iC.lt (t:=.rw x) (ab sd)
  by_cases hz:D.bS x c=[]
  ·have e6:cQ (p (.cl x c)) (D.bS x c).length = .ah:=by rw[hz];rfl
   have Lc:∀B:ag,ak (pO ++ [B]) (p (.rw x))=_:=λB=>gi (r:=[B]) rL;simp[-al,e6,Lc,e2,e3,e4,e5,sd,oh];refine⟨by omega,λt=>if t = .cl x c then pO.length else p t,by simp,?_⟩
   have hw:[row] ≠ []:=by simp
   have pt:∀t,t ≠ Tg.cl x c->(λt=>if t=Tg.cl x c then pO.length else p t) t=p t:=λt ht=>aa ht
   have wW:(λt=>if t=Tg.cl x c then pO.length else p t) (.cl x c)=pO.length:=ab rfl
   generalize (λt=>if t=Tg.cl x c then pO.length else p t)=p' at *
   have alg:p (.rw x)<(pO ++ [(⟨none,[wI row],.live⟩:ag)]).length:=by simp;omega
   have ho:VS (Vd.de {D with K:=aH D.K vs} x c [row]) O p' _:=(iC.de sd oh pt hw (τ:=ay (pO ++ [⟨none,[wI row],.live⟩]) (p (.rw x)) ((Vd.de {D with K:=aH D.K vs} x c [row]).km p' x)) (by rw[wW,aO (by omega)];exact iq) (by rw[cE alg])
    (λt B h1 h2 hB=>by rw[aO (iC.ne (t:=.rw x) (ab sd) hB (Ne.symm h1))];exact gi (iC.has t B hB))
    (λt B h1 hB=>by have:=iC.lt hB;omega)).zG vH
   rw[SP (D:={D with K:=aH D.K vs}) sd oh pt hw,wW]at ho
   simp only[Ld,dM]at ho;show VS (D.comb x c y) O p' _;unfold Vd.comb;rw[yL,zL,show(AV.sl pO.length 1 0 1).cells=[AV.sl pO.length 1 0 1]from rfl,rM,Jn,hz];simpa[Vd.de,Ld]using ho
  ·have e6:cQ (p (.cl x c)) (D.bS x c).length = .sl (p (.cl x c)) (D.bS x c).length 0 (D.bS x c).length:=aa λe=>hz (dW e)
   have hcv:=iC.has (.cl x c) _ (ab ⟨sd,oh,hz⟩);simp only[dM]at hcv;have e7:p (.cl x c) ≠ p (.rw x):=iC.ne (t:=.cl x c) (u:=.rw x) (ab ⟨sd,oh,hz⟩) (ab sd) (by simp)
   have hg:∀B,ak (ay pO (p (.cl x c)) B) (p (.rw x))=ak pO (p (.rw x)):=λB=>aO e7;simp[-al,e6,hcv,rL,e2,e3,e4,e5,sd,oh,hg];refine⟨by omega,by omega,p,rfl,?_⟩
   have hw:D.bS x c ++ [row] ≠ []:=by simp
   have ho:VS (Vd.de {D with K:=aH D.K vs} x c (D.bS x c ++ [row])) O p _:=(iC.de sd oh (p' :=p) (λ_ _=>rfl) hw (τ:=ay (ay pO (p (.cl x c)) ⟨none,(D.bS x c).map wI ++ [wI row],.live⟩) (p (.rw x)) ((Vd.de {D with K:=aH D.K vs} x c (D.bS x c ++ [row])).km p x)) (by rw[aO e7.symm,cE (iC.lt (t:=.cl x c) (ab ⟨sd,oh,hz⟩))];simp) (by rw[cE (by rw[bZ];exact alf)])
    (λt B h1 h2 hB=>by rw[aO (iC.ne (t:=.rw x) (ab sd) hB (Ne.symm h1)),aO (iC.ne (t:=.cl x c) (ab ⟨sd,oh,hz⟩) hB (Ne.symm h2))];exact iC.has t B hB)
    (λt B h1 hB=>iC.ne hB (u:=.cl x c) (ab ⟨sd,oh,hz⟩) h1)).zG vH
   rw[SP (D:={D with K:=aH D.K vs}) sd oh (λ_ _=>rfl) hw]at ho
   simp only[Ld,dM]at ho;show VS (D.comb x c y) O p _;unfold Vd.comb;rw[yL,zL,show(AV.sl (p (Tg.cl x c)) ((D.bS x c).length+1) 0 ((D.bS x c).length+1)).cells=[AV.sl (p (Tg.cl x c)) ((D.bS x c).length+1) 0 ((D.bS x c).length+1)]from rfl,rM,Jn];simpa[Vd.de,Ld]using ho
def Vd.gL (D:Vd) (x:Nat):List (List Int):=(List.range D.n.aj.toNat).map λ(i:Nat)=>(ix D.K (x:Int)).map λs=>ix (ix D.n.inner s) (i:Int)
structure mb (P:List Int->Prop) (D:Vd):Prop where
 ok:tz D
 nd:D.K.Nodup
 pr:∀k∈D.K,P k
 h0:0<D.K.length/\ix D.K 0=D.n.bj
 aQ:∀x:Nat,x<D.IN.length->x<D.K.length/\ix D.IN (x:Int)=idxs D.K (D.gL x)/\∀v∈D.gL x,v∈D.K
 rl:∀x:Nat,x<D.BL.length->(D.row x).length=D.n.calls.toNat
 bl:∀x c y:Nat,x<D.BL.length->c<D.n.calls.toNat->y<(D.bS x c).length->x<D.K.length/\y<D.K.length/\ix (D.bS x c) (y:Int)=idxs D.K (D.dU x c y)/\∀v∈D.dU x c y,v∈D.K
theorem uR{K r:List (List Int)}{x:Nat}(h:x<K.length):ix (K++r) (x:Int)=ix K (x:Int):=by
 rw[aS (by simp;omega),aS h,List.getElem_append_left]
theorem SR{K r vs:List (List Int)}(h:∀v∈vs,v∈K):idxs (K++r) vs=idxs K vs:=
 gf λv hv=>by rw[SI (h v hv)]
theorem alh{K:List (List Int)}{l:List Int}(h:K.Nodup):(iu K l).Nodup:=by
 unfold iu;split
 ·exact h
 ·rename_i hl
  rw[sK];exact⟨h,by simp,λa ha b hb=>by simp at hb;subst hb;exact λe=>hl (e▸ha)⟩
theorem SS:∀{vs K:List (List Int)},K.Nodup->(aH K vs).Nodup
 | [],_,h=>h
 |v::vs,K,h=>SS (vs:=vs) (alh h)
theorem mb.grow{P:List Int->Prop}{D:Vd}(h:mb P D){vs:List (List Int)}(hs:∀v∈vs,D.n.tu v/\v.length=D.n.bj.length) (hp:∀v∈vs,P v):mb P {D with K:=aH D.K vs}:=by
 obtain⟨r,e,hr⟩:=wT vs D.K;have ha:∀x,x<D.K.length->Vd.gL {D with K:=aH D.K vs} x=D.gL x:=λx hx=>by
  unfold Vd.gL;dsimp only;rw[e,uR hx]
 have hn:∀x c y,x<D.K.length->y<D.K.length->Vd.dU {D with K:=aH D.K vs} x c y=D.dU x c y:=λx c y hx hy=>by
  unfold Vd.dU;dsimp only;rw[e,uR hx,uR hy]
 refine⟨h.ok.aH hs,SS h.nd,EH h.pr hp,?_,λx hx=>?_,h.rl,λx c y hx hc hy=>?_⟩
 ·dsimp only
  rw[e];have:=uR (r:=r) h.h0.1;exact⟨by simp;have:=h.h0.1;omega,by rw[show(0:Int)=((0:Nat):Int)by rfl,this];exact h.h0.2⟩
 ·obtain⟨h1,h2,h3⟩:=h.aQ x hx
  rw[ha x h1];dsimp only;rw[e];exact⟨by simp;omega,by rw[SR h3];exact h2,λv hv=>by simp[h3 v hv]⟩
 ·obtain⟨h1,h2,h3,h4⟩:=h.bl x c y hx hc hy
  rw[hn x c y h1 h2];dsimp only;rw[e];exact⟨by simp;omega,by simp;omega,by rw[SR h4];exact h3,λv hv=>by simp[h4 v hv]⟩
theorem Jq{α:Type} [Inhabited α]{l:List α}{v:α}{j:Nat}(hj:j<l.length+1):ix (l ++ [v]) (j:Int)=if j<l.length then ix l (j:Int)else v:=by
 rw[aS (by simp;omega),List.getElem_append]
 split
 ·rename_i h;rw[aS h]
 ·have:j-l.length=0:=by omega
  simp[this]
theorem mb.de{P:List Int->Prop}{D:Vd}(h:mb P D){x c y:Nat}(hx:x<D.BL.length) (hc:c<D.n.calls.toNat) (SU:x<D.K.length) (Gh:y<D.K.length) (hl:(D.bS x c).length=y) (hv:∀v∈D.dU x c y,v∈D.K):mb P (D.de x c (D.bS x c ++ [idxs D.K (D.dU x c y)])):=by
 have fW : c<(D.row x).length:=by rw[h.rl x hx];exact hc
 refine⟨⟨h.ok.ok,h.ok.st,h.ok.el,h.ok.plc⟩,h.nd,h.pr,h.h0,h.aQ,λx' bJ =>?_,λx' c' y' bJ SV kj =>?_⟩
 ·rw[uP hx]
  exact h.rl x' (by simpa[Vd.de]using bJ)
 ·have AJ:x' < D.BL.length:=by simpa[Vd.de]using bJ
  rw[wU hx fW]at kj ⊢;show _/\_/\_=idxs D.K (D.dU x' c' y')/\∀v∈D.dU x' c' y', v∈D.K
  by_cases e:x' = x/\c' = c
  ·rw[ab e]at kj ⊢
   obtain⟨rfl,rfl⟩:=e;simp at kj;rw[Jq kj]
   by_cases aK:y' < (D.bS x' c').length
   ·rw[ab aK]
    exact h.bl x' c' y' AJ SV aK
   ·have:y' = y:=by omega
    subst this;rw[aa aK];exact⟨SU,Gh,rfl,hv⟩
  ·rw[aa e]at kj ⊢
   exact h.bl x' c' y' AJ SV kj
theorem tz.Jr{D:Vd}(h:tz D){x c y:Nat}(hx:x<D.K.length) (hy:y<D.K.length) (hc:(c:Int)<D.n.calls):∀v∈D.dU x c y,D.n.tu v/\v.length=D.n.bj.length:=λv hv=>by
 obtain⟨r,hr,rfl⟩:=cR.1 hv;have:=cy.1 hr;exact h.qn hx hy ⟨by omega,hc⟩ ⟨by omega,by omega⟩
theorem tz.Js{D:Vd}(h:tz D){x:Nat}(hx:x<D.K.length):∀v∈D.gL x,D.n.tu v/\v.length=D.n.bj.length:=λv hv=>by
 obtain⟨i,hi,rfl⟩:=cR.1 hv;have:=cy.1 hi;have hk:=h.kx hx;refine⟨λs hs=>?_,by rw[dR];exact hk.2⟩
 obtain⟨t,ht,rfl⟩:=cR.1 hs;have h1:=hk.1 t ht;exact h.ok.inner t i h1.1 h1.2 (by omega) (by omega)
structure Gi (P:List Int->Prop) (n:ao) (plc:List Int):Prop where
 aft:∀k,P k->∀i,0<=i->i<n.aj->P (k.map λs=>ix (ix n.inner s) i)
 qn:∀k m,P k->P m->∀c r,0<=c->c<n.calls->0<=r->r<n.aq->P (k.map (n.qn plc m c r))
theorem mb.kx{P:List Int->Prop}{D:Vd}(h:mb P D){x:Nat}(hx:x<D.K.length):P (ix D.K (x:Int)):=h.pr _ (aZ (by omega) (by omega))
theorem mb.comb{P:List Int->Prop}{D:Vd}(h:mb P D) (hP:Gi P D.n D.plc){x c y:Nat}(hx:x<D.BL.length) (hc:c<D.n.calls.toNat) (SU:x<D.K.length) (Gh:y<D.K.length) (hl:(D.bS x c).length=y):mb P (D.comb x c y):=by
 have h1:=h.grow (vs:=D.dU x c y) (h.ok.Jr SU Gh (by omega)) λv hv=>by
  obtain⟨r,hr,rfl⟩:=cR.1 hv;have:=cy.1 hr;exact hP.qn _ _ (h.kx SU) (h.kx Gh) c r (by omega) (by omega) (by omega) (by omega)
 obtain⟨r,e,hr⟩:=wT (D.dU x c y) D.K;have hn:Vd.dU {D with K:=aH D.K (D.dU x c y)} x c y=D.dU x c y:=by
  show(List.range D.n.aq.toNat).map (λ(r:Nat)=>(ix (aH D.K (D.dU x c y)) (x:Int)).map (D.n.qn D.plc (ix (aH D.K (D.dU x c y)) (y:Int)) c r))=_;rw[e,uR SU,uR Gh]
  rfl
 have h2:=h1.de (x:=x) (c:=c) (y:=y) hx hc (by dsimp only;rw[e];simp;omega) (by dsimp only;rw[e];simp;omega) hl (by rw[hn];exact λv hv=>tx (.inl hv))
 rw[hn]at h2;exact h2
theorem EK{D:Vd}{x c y:Nat}(hx:x<D.BL.length) (hc:c<(D.row x).length) (x' c' : Nat):((D.comb x c y).bS x' c').length=(D.bS x' c').length+if x' = x/\c' = c then 1 else 0:=by
 have:(D.comb x c y).bS x' c' = (Vd.de {D with K:=aH D.K (D.dU x c y)} x c (D.bS x c ++ [idxs (aH D.K (D.dU x c y)) (D.dU x c y)])).bS x' c' :=rfl
 rw[this,wU (D:={D with K:=aH D.K (D.dU x c y)}) hx hc]
 split
 ·rename_i e;rw[e.1,e.2];simp
 ·rfl
theorem SX{D:Vd}{x c y:Nat}:∃r,(D.comb x c y).K=D.K++r/\r.length<=D.n.aq.toNat:=by
 obtain⟨r,e,hr⟩:=wT (D.dU x c y) D.K;exact⟨r,e,by simpa[Vd.dU]using hr⟩
theorem zM{D:Vd}{x c y:Nat}:(D.comb x c y).BL.length=D.BL.length:=by simp[Vd.comb]
theorem ali{D:Vd}{x c y:Nat}(hx:x<D.BL.length) (z:Nat):((D.comb x c y).row z).length=(D.row z).length:=uP (D:={D with K:=aH D.K (D.dU x c y)}) hx z
structure vI (D:Vd) (x y c:Nat):Prop where
 bl:D.BL.length=x+1
 lo:∀x' c', x' < x->c' < D.n.calls.toNat->(D.bS x' c').length=if x' < y\/(x' = y/\c' < c)then x+1 else x
 hi:∀c', c' < D.n.calls.toNat->(D.bS x c').length=if c' < c then y+1 else y
theorem vI.next{D:Vd}{x y:Nat}(h:vI D x y D.n.calls.toNat):vI D x (y+1) 0:=by
 refine⟨h.bl,λx' c' h1 h2=>?_,λc' h2=>?_⟩
 ·rw[h.lo x' c' h1 h2]
  by_cases e:x' < y\/x' = y
  ·rw[ab (by omega),ab (by omega)]
  ·rw[aa (by omega),aa (by omega)]
 ·rw[h.hi c' h2,ab h2,aa (by omega)]
abbrev Jt (b:Nat) (x:Nat):List AV:=[.ptr b 16 0,.int x,.aM,.aM,.aM,.aM,.aM,.aM,.aM,.aM,.aM,.aM,.aM]
def zO:IC:=(.seq (.seq (.ae Rz)
 (.block 4 (.loop RA)))
 (.seq (.ae RB)
 (.cond 99 (.seq (.ae RD)
 .ret) .skip)))
theorem vI.one{D:Vd}{x y c:Nat}(h:vI D x y c) (hc:c<D.n.calls.toNat) (hr:∀z,z<D.BL.length->(D.row z).length=D.n.calls.toNat) (hy:y=x):vI (D.comb x c y) x y (c+1):=by
 have hb:=h.bl;have lI:∀x' c', ((D.comb x c y).bS x' c').length=(D.bS x' c').length+if x' = x/\c' = c then 1 else 0:=λx' c' =>EK (by omega) (by rw[hr x (by omega)];exact hc) x' c'
 refine⟨by rw[zM];exact hb,λx' c' h1 h2=>?_,λc' h2=>?_⟩
 ·rw[lI,h.lo x' c' h1 h2,aa (show ¬(x' = x/\c' = c)by omega),ab (by omega),ab (by omega)]
 ·rw[lI,h.hi c' h2]
  by_cases e:c' = c
  ·rw[aa (by omega),ab (by omega),ab (by omega)]
  ·rw[aa (show ¬(x=x/\c' = c)by omega)]
   by_cases e2:c' < c
   ·rw[ab e2,ab (by omega)]
   ·rw[aa e2,aa (by omega)]<;>omega
theorem vI.two{D:Vd}{x y c:Nat}(h:vI D x y c) (hc:c<D.n.calls.toNat) (hr:∀z,z<D.BL.length->(D.row z).length=D.n.calls.toNat) (hy:y<x):vI ((D.comb x c y).comb y c x) x y (c+1):=by
 have hb:=h.bl;have lI:∀x' c', ((D.comb x c y).bS x' c').length=(D.bS x' c').length+if x' = x/\c' = c then 1 else 0:=λx' c' =>EK (by omega) (by rw[hr x (by omega)];exact hc) x' c'
 have p9:∀x' c', (((D.comb x c y).comb y c x).bS x' c').length=((D.comb x c y).bS x' c').length+if x' = y/\c' = c then 1 else 0:=λx' c' =>EK (by rw[zM];omega) (by rw[ali (by omega),hr y (by omega)];exact hc) x' c'
 refine⟨by rw[zM,zM];exact hb,λx' c' h1 h2=>?_,λc' h2=>?_⟩
 ·rw[p9,lI,h.lo x' c' h1 h2,aa (show ¬(x' = x/\c' = c)by omega)]
  by_cases e:x' = y/\c' = c
  ·rw[ab e,aa (by omega),ab (by omega)]
  ·rw[aa e]
   by_cases e2:x' < y\/x' = y/\c' < c
   ·rw[ab e2,ab (by omega)]
   ·rw[aa e2,aa (by omega)]<;>omega
 ·rw[p9,lI,h.hi c' h2,aa (show ¬(x=y/\c' = c)by omega)]
  by_cases e:c' = c
  ·rw[aa (by omega),ab (by omega),ab (by omega)]
  ·rw[aa (show ¬(x=x/\c' = c)by omega)]
   by_cases e2:c' < c
   ·rw[ab e2,ab (by omega)]
   ·rw[aa e2,aa (by omega)]<;>omega
structure EL (P:List Int->Prop) (n:ao) (plc:List Int) (O:Nat->Option ag) (b x:Nat) (D:Vd) (p:Tg->Nat) (σ:List ag):Prop where
 s:VS D O p σ
 v:mb P D
 n:D.n=n
 plc:D.plc=plc
 p:p .v=b
 i:D.IN.length=x+1
 x:x<D.K.length
theorem EL.comb{P:List Int->Prop}{n:ao}{plc:List Int}{O:Nat->Option ag}{b x:Nat}{D:Vd}{p:Tg->Nat}{σ:List ag}(h:EL P n plc O b x D p σ) (hP:Gi P n plc){y c z:Nat}(hy:y<D.BL.length) (hz:z<D.K.length) (Gh:y<D.K.length) (hc:c<n.calls.toNat) (hl:(D.bS y c).length=z) (hK:D.K.length<=1000) (ug:z<=1000) :
  ∃τ p', L zp [.ptr b 16 0,.int y,.int c,.int z] σ=some (.bQ [],τ)/\EL P n plc O b x (D.comb y c z) p' τ:=by
 have hn:=h.n;have hp:=h.plc;have lI:c<D.n.calls.toNat:=by rw[hn];exact hc
 have h1:=ald D O p σ h.s h.v.ok y c z Gh hz (by omega) hy (by rw[h.v.rl y hy];exact lI) hK (by omega)
 obtain⟨r,τ,h2,rfl,p', h3,h4⟩:=dS h1;rw[h.p]at h2 h3;obtain⟨e,he,_⟩:=SX (D:=D) (x:=y) (c:=c) (y:=z);exact⟨τ,p', h2,h4,h.v.comb (by rw[hn,hp];exact hP) hy lI Gh hz hl,hn,hp,h3,h.i,by rw[he];simp;have:=h.x;omega⟩
theorem alj{P:List Int->Prop}{n:ao}{plc:List Int}(hP:Gi P n plc){O:Nat->Option ag}{x b:Nat}{Q:Ex->St->Prop}
  (D:Vd) (p:Tg->Nat) (σ:List ag) (hS:EL P n plc O b x D p σ) (hK:D.K.length<=600) (hl:vI D x 0 0)
  (h1:∀D' p' τ,EL P n plc O b x D' p' τ->vI D' x (x+1) 0->D'.K.length<=512->Q .fm ⟨Jt b x,none,τ⟩)
  (h2:∀D' p' τ,EL P n plc O b x D' p' τ->512<D'.K.length->Q .ret ⟨[.aM,.aM,.aM,.aM,.aM,.aM,.aM,.aM,.aM,.aM,.aM,.aM,.bool false],none,τ⟩):WK L zO (Jt b x) none σ Q:=by
 unfold zO;have hx0:=hS.x;have oB:=hS.v.ok.ok;rw[hS.n]at oB;have XE:=oB.calls;have hnr:=oB.aq;simp[-al];refine⟨by omega,?_⟩
 refine bC (λq:Nat×List ag=>[(6,.int q.1)]) (λq=>q.2) (λq=>q.1<=x+1/\∃D' p', EL P n plc O b x D' p' q.2/\D'.K.length<=600/\vI D' x q.1 0) (λq=>x+1-q.1) (0,σ) (by simp[bT]) ⟨by simp,D,p,hS,hK,hl⟩ ?_
 rintro⟨y,qf⟩ ⟨y0,D1,p1,xF,Le,r8⟩;dsimp only at y0 xF r8 ⊢;have dQ:=xF.s.has .v _ rfl;unfold Vd.box at dQ;rw[xF.p,xF.n]at dQ
 by_cases hy:y<x+1
 ·have kj :=bM (show(y:Int)<(x:Int)+1 by omega)
  simp[-al,kj, dQ];refine bC (λq:Nat×List ag=>[(8,.int q.1)]) (λq=>q.2) (λq=>q.1<=n.calls.toNat/\∃D' p', EL P n plc O b x D' p' q.2/\D'.K.length<=600/\vI D' x y q.1) (λq=>n.calls.toNat-q.1) (0,qf) (by simp[bT]) ⟨by simp,D1,p1,xF,Le,r8⟩ ?_
  rintro⟨c,pO⟩ ⟨c0,D2,p2,iC,hK2,lU⟩;dsimp only at c0 iC lU ⊢
  by_cases hc:c<n.calls.toNat
  ·have fW :=bM (show(c:Int)<n.calls by omega)
   have p9:c<D2.n.calls.toNat:=by rw[iC.n];exact hc
   have ni:=lU.bl;have AJ:=iC.x;obtain⟨gk,p3,Wz,ml⟩:=iC.comb hP (y:=x) (c:=c) (z:=y) (by omega) (by omega) AJ hc (by rw[lU.hi c p9,aa (by omega)]) (by omega) (by omega)
   obtain⟨e1,pM,EJ⟩:=SX (D:=D2) (x:=x) (c:=c) (y:=y);rw[iC.n]at EJ;have aoh:(D2.comb x c y).K.length<=664:=by rw[pM,bu];omega
   by_cases hyx:y<x
   ·have Ju :=bM (show(y:Int)<(x:Int)by omega)
    obtain⟨AT,p4,hC2,EM⟩:=ml.comb hP (y:=y) (c:=c) (z:=x) (by rw[zM];omega) ml.x (by have:=ml.x;omega) hc (by rw[EK (by omega) (by rw[iC.v.rl x (by omega)];exact p9),lU.lo y c hyx p9,aa (by omega),aa (by omega)]<;>omega) (by omega) (by omega)
    have WA:=lU.two p9 iC.v.rl hyx;have zP:=EM.s.has .v _ rfl;unfold Vd.box at zP;rw[EM.p,EM.n]at zP;simp[-al,fW, Ju, Wz,hC2,zP];generalize (D2.comb x c y).comb y c x=D4 at *;exact⟨λh=>h2 D4 p4 AT EM (by omega),λh=>⟨by omega,ba (c+1,AT) (by simp) rfl ⟨by dsimp only;omega,D4,⟨p4,EM⟩,by omega,WA⟩ (by dsimp only;omega)⟩⟩
   ·have Ju :=gg (show ¬(y:Int)<(x:Int)by omega)
    have WA:=lU.one p9 iC.v.rl (by omega)
    have zP:=ml.s.has .v _ rfl;unfold Vd.box at zP;rw[ml.p,ml.n]at zP;simp[-al,fW, Ju, Wz,zP];generalize D2.comb x c y=D4 at *;exact⟨λh=>h2 D4 p3 gk ml (by omega),λh=>⟨by omega,ba (c+1,gk) (by simp) rfl ⟨by dsimp only;omega,D4,⟨p3,ml⟩,by omega,WA⟩ (by dsimp only;omega)⟩⟩
  ·have fW :=gg (show ¬(c:Int)<n.calls by omega)
   have ec:c=D2.n.calls.toNat:=by rw[iC.n];omega
   rw[ec]at lU;have Lf:=lU.next
   simp[-al,fW];exact⟨by omega,ba (y+1,pO) (by simp) rfl ⟨by dsimp only;omega,D2,⟨p2,iC⟩,hK2,Lf⟩ (by dsimp only;omega)⟩
 ·have ey:y=x+1:=by omega
  subst ey;simp[-al,dQ];exact⟨λh=>h2 D1 p1 qf xF (by omega),λh=>h1 D1 p1 qf xF r8 (by omega)⟩
theorem VS.step{D D' : Vd}{O:Nat->Option ag}{p p' : Tg->Nat}{σ τ:List ag}(h:VS D O p σ) (Ch:Tg->Prop)
  (h1:∀t,¬Ch t->D'.cont O p' t=D.cont O p t/\p' t=p t)
  (h2:∀t B,Ch t->D'.cont O p' t=some B->ak τ (p' t)=some B)
  (h3:∀t B,¬Ch t->D.cont O p t=some B->ak τ (p t)=some B)
  (h4:∀t B,Ch t->D'.cont O p' t=some B->((∃A,D.cont O p t=some A)/\p' t=p t)\/σ.length<=p' t)
  (h5:∀t u,Ch t->Ch u->σ.length<=p' t->p' t=p' u->t=u)
  (h6:∀i,¬Ch (.old i)):VS D' O p' τ:=by
 have key:∀t B,D'.cont O p' t=some B->((∃A,D.cont O p t=some A)/\p' t=p t)\/(Ch t/\σ.length<=p' t):=λt B hB=>by
  by_cases hc:Ch t
  ·exact(h4 t B hc hB).imp id λq=>⟨hc,q⟩
  ·obtain⟨e1,e2⟩:=h1 t hc
   rw[e1]at hB;exact .inl ⟨⟨B,hB⟩,e2⟩
 refine⟨λt B hB=>?_,λt u A B hA hB e=>?_,λi=>by rw[(h1 _ (h6 i)).2];exact h.old i⟩
 ·by_cases hc:Ch t
  ·exact h2 t B hc hB
  ·obtain⟨e1,e2⟩:=h1 t hc
   rw[e1]at hB;rw[e2];exact h3 t B hc hB
 ·rcases key t A hA with⟨⟨A', uO⟩,e1⟩|⟨c1,e1⟩
  ·rcases key u B hB with⟨⟨B', oZ⟩,e2⟩|⟨c2,e2⟩
   ·exact h.inj t u A' B' uO oZ (by rw[<-e1,<-e2];exact e)
   ·have:=h.lt uO; omega
  ·rcases key u B hB with⟨⟨B', oZ⟩,e2⟩|⟨c2,e2⟩
   ·have:=h.lt oZ; omega
   ·exact h5 t u c1 c2 e1 e
def vJ:IC:=(.seq (.ae Ry) zO)
def Jv:IC:=(.seq (.ae Rx) vJ)
def Vd.eM (D:Vd) (row:List Int):Vd:={D with IN:=D.IN ++ [row]}
theorem VS.eM{D:Vd}{O:Nat->Option ag}{p p' : Tg->Nat}{σ τ:List ag}(h:VS D O p σ){row:List Int}(hp:∀t,t ≠ .aQ->p' t=p t)
  (hi:ak τ (p' .aQ)=some ⟨none,(D.IN ++ [row]).map wI,.live⟩) (hv:ak τ (p .v)=some ((D.eM row).box p')) (h3:∀t B,t ≠ .v->t ≠ .aQ->D.cont O p t=some B->ak τ (p t)=some B)
  (h4:(D.IN ≠ []/\p' .aQ=p .aQ)\/σ.length<=p' .aQ):VS (D.eM row) O p' τ:=by
 have fc:(D.eM row).cont O p' .aQ=some ⟨none,(D.IN ++ [row]).map wI,.live⟩:=aa (by simp[Vd.eM])
 refine h.step (λt=>t = .v\/t = .aQ) (λt ht=>?_) (λt B ht hB=>?_) (λt B ht hB=>h3 t B (λe=>ht (.inl e)) (λe=>ht (.inr e)) hB) (λt B ht hB=>?_) (λt u ht hu hl e=>?_) λi=>by simp
 ·have h1:t ≠ .v:=λe=>ht (.inl e)
  have h2:t ≠ .aQ:=λe=>ht (.inr e);refine⟨?_,hp t h2⟩;cases t with
  |v=>exact absurd rfl h1
  |aQ=>exact absurd rfl h2
  |bl=>
   show(if D.BL=[]then none else some ((D.eM row).tW p'))=if D.BL=[]then none else some (D.tW p)
   have:(D.eM row).tW p' = D.tW p:=by
    unfold Vd.tW;simp only[λy=>hp (.rw y) (by simp)]
    rfl
   rw[this]
  |rw x=>
   show(if x<D.BL.length then some ((D.eM row).km p' x)else none)=if x<D.BL.length then some (D.km p x)else none
   have:(D.eM row).km p' x=D.km p x:=by
    unfold Vd.km;simp only[λy=>hp (.cl x y) (by simp)]
    rfl
   rw[this]
  |_=>rfl
 ·rcases ht with rfl|rfl
  ·rw[hp _ (by simp),hv];exact hB
  ·rw[fc]at hB;rw[hi];exact hB
 ·rcases ht with rfl|rfl
  ·exact .inl ⟨⟨_,rfl⟩,hp _ (by simp)⟩
  ·exact h4.imp (λq=>⟨⟨_,aa q.1⟩,q.2⟩) id
 ·rcases ht with rfl|rfl
  ·rw[hp _ (by simp)]at hl
   have:=h.lt (t:=.v) rfl;omega
  ·rcases hu with rfl|rfl
   ·rw[hp .v (by simp)]at e
    have:=h.lt (t:=.v) rfl;omega
   ·rfl
theorem alm{Q:Ex->St->Prop}{O:Nat->Option ag}{x:Nat}{row:List Int}
  (D:Vd) (p:Tg->Nat) (σ:List ag) (hS:VS D O p σ) (hx:x<=1000) (hI:D.IN.length=x) {i j:AV}
  (h1:∀p' τ,VS (D.eM row) O p' τ->p' .v=p .v->WK L vJ (Jt (p .v) x) none τ Q):WK L Jv [.ptr (p .v) 16 0,.int x,i,j,wI row,.aM,.aM,.aM,.aM,.aM,.aM,.aM,.aM] none σ Q:=by
 unfold Jv;have hv:=hS.has .v _ rfl;unfold Vd.box at hv;have w1:(wI row).cells=[wI row]:=rfl;have w2:bz (wI row)=true:=rfl;have l1:=hS.lt (t:=.v) rfl
 by_cases xG:D.IN=[]
 ·have e2:cQ (p .aQ) D.IN.length = .ah:=by rw[xG];rfl
  have b1:∀B:ag,ak (σ ++ [B]) (p .v)=_:=λB=>gi (r:=[B]) hv;simp[-al,hv,e2,b1,w1,w2];have pt:∀t,t ≠ Tg.aQ->(λt=>if t=Tg.aQ then σ.length else p t) t=p t:=λt ht=>aa ht
  have wW:(λt=>if t=Tg.aQ then σ.length else p t) .aQ=σ.length:=ab rfl
  generalize (λt=>if t=Tg.aQ then σ.length else p t)=p' at *
  have l3:p .v<(σ ++ [(⟨none,[wI row],.live⟩:ag)]).length:=by simp;omega
  have xH:(D.eM row).box p' = _:=rfl;refine h1 p' _ (hS.eM pt (by rw[wW,aO (by omega),iq,xG];rfl) ?_ (λt B h1 h2 hB=>by rw[aO (hS.ne (t:=.v) rfl hB (Ne.symm h1))];exact gi (hS.has t B hB)) (.inr (by omega))) (pt _ (by simp))
  rw[cE l3];unfold Vd.box;simp[Vd.eM,xG,wW,pt,cQ]
 ·have fc:=hS.has .aQ _ (aa xG)
  have vK:D.IN.length ≠ 0:=λe=>xG (dW e);have e2:cQ (p .aQ) D.IN.length = .sl (p .aQ) D.IN.length 0 D.IN.length:=aa (by omega)
  have n1:p .aQ ≠ p .v:=hS.ne (t:=.aQ) (u:=.v) (aa xG) rfl (by simp)
  have b1:∀(Q:List ag) B,ak (ay Q (p .aQ) B) (p .v)=ak Q (p .v):=λQ B=>aO n1;have l2:=hS.lt (t:=.aQ) (aa xG);simp[-al,hv,e2,fc,b1,w1,w2];refine⟨by omega,h1 p _ (hS.eM (λ_ _=>rfl) (by rw[aO n1.symm,cE l2];simp) ?_ (λt B h1 h2 hB=>by rw[aO (hS.ne (t:=.v) rfl hB (Ne.symm h1)),aO (hS.ne (t:=.aQ) (aa xG) hB (Ne.symm h2))];exact hS.has t B hB) (.inl ⟨xG,rfl⟩)) rfl⟩
  rw[cE (by rw[bZ];exact l1)]
  unfold Vd.box;simp[Vd.eM,cQ]
def Vd.bG (D:Vd):Vd:={D with BL:=D.BL ++ [List.replicate D.n.calls.toNat []]}
theorem uS{D:Vd}{y:Nat}:D.bG.row y=if y=D.BL.length then List.replicate D.n.calls.toNat []else D.row y:=by
 unfold Vd.row Vd.bG;dsimp only
 by_cases h:y<D.BL.length+1
 ·rw[Jq h]
  by_cases e:y<D.BL.length
  ·rw[ab e,aa (by omega)]
  ·rw[aa e,ab (by omega)]
 ·rw[aa (by omega)]
  unfold ix;rw[gG,gG,jF (by simp;omega),jF (by omega)]
theorem lh{α:Type} [Inhabited α]{k c:Nat}{a:α}(h:c<k):ix (List.replicate k a) (c:Int)=a:=by
 rw[aS (by simpa using h)];simp
theorem wX{D:Vd}{y c:Nat}:D.bG.bS y c=if y=D.BL.length then[]else D.bS y c:=by
 unfold Vd.bS;rw[uS];split
 ·by_cases h:c<D.n.calls.toNat
  ·exact lh h
  ·unfold ix
   rw[gG,jF (by simp;omega)];rfl
 ·rfl
theorem VS.bG{D:Vd}{O:Nat->Option ag}{p p' : Tg->Nat}{σ τ:List ag}(h:VS D O p σ) (hp:∀t,t ≠ .bl->t ≠ .rw D.BL.length->p' t=p t)
  (hi:ak τ (p' .bl)=some (D.bG.tW p')) (hr:ak τ (p' (.rw D.BL.length))=some ⟨none,List.replicate D.n.calls.toNat .ah,.live⟩) (hv:ak τ (p .v)=some (D.bG.box p'))
  (h3:∀t B,t ≠ .v->t ≠ .bl->D.cont O p t=some B->ak τ (p t)=some B)
  (h4:(D.BL ≠ []/\p' .bl=p .bl)\/σ.length<=p' .bl) (h5:σ.length<=p' (.rw D.BL.length)) (h6:p' .bl ≠ p' (.rw D.BL.length)):VS D.bG O p' τ:=by
 have hl:D.bG.BL.length=D.BL.length+1:=by simp[Vd.bG]
 have fc:D.bG.cont O p' .bl=some (D.bG.tW p'):=aa (by simp[Vd.bG])
 have rL:D.bG.cont O p' (.rw D.BL.length)=some ⟨none,List.replicate D.n.calls.toNat .ah,.live⟩:=by
  show(if D.BL.length<D.bG.BL.length then some (D.bG.km p' D.BL.length)else none)=_
  rw[hl,ab (by omega)]
  unfold Vd.km;rw[uS,ab rfl]
  congr 2
  apply mC (by simp)
  intro i h1 h2;simp[wX,cQ]
 have pI:=h.lt (t:=.v) rfl;refine h.step (λt=>t = .v\/t = .bl\/t = .rw D.BL.length) (λt ht=>?_) (λt B ht hB=>?_) (λt B ht hB=>h3 t B (λe=>ht (.inl e)) (λe=>ht (.inr (.inl e))) hB) (λt B ht hB=>?_) (λt u ht hu aK e=>?_) λi=>by simp
 ·have h1:t ≠ .v:=λe=>ht (.inl e)
  have h2:t ≠ .bl:=λe=>ht (.inr (.inl e));have r5 : t ≠ .rw D.BL.length:=λe=>ht (.inr (.inr e));refine⟨?_,hp t h2 r5⟩;cases t with
  |v=>exact absurd rfl h1
  |bl=>exact absurd rfl h2
  |rw x=>
   have hx:x ≠ D.BL.length:=λe=>r5 (by rw[e])
   show(if x<D.bG.BL.length then some (D.bG.km p' x)else none)=if x<D.BL.length then some (D.km p x)else none
   have:D.bG.km p' x=D.km p x:=by
    unfold Vd.km;simp only[λy=>hp (.cl x y) (by simp) (by simp),uS,wX,aa hx]
   rw[this,hl]
   by_cases e:x<D.BL.length
   ·rw[ab e,ab (by omega)]
   ·rw[aa e,aa (by omega)]
  |cl x c=>
   show(if x<D.bG.BL.length/\c<(D.bG.row x).length/\D.bG.bS x c ≠ []then some (⟨none,(D.bG.bS x c).map wI,.live⟩:ag)else none)=if x<D.BL.length/\c<(D.row x).length/\D.bS x c ≠ []then some ⟨none,(D.bS x c).map wI,.live⟩else none
   rw[hl,uS,wX]
   by_cases e:x=D.BL.length
   ·rw[ab e,ab e,aa (by simp),aa (by omega)]
   ·rw[aa e,aa e]
    by_cases e2:x<D.BL.length
    ·simp only[e2,show x<D.BL.length+1 by omega]
    ·simp only[e2,show ¬x<D.BL.length+1 by omega]
  |_=>rfl
 ·rcases ht with rfl|rfl|rfl
  ·rw[hp _ (by simp) (by simp),hv];exact hB
  ·rw[fc]at hB;rw[hi];exact hB
  ·rw[rL]at hB;rw[hr];exact hB
 ·rcases ht with rfl|rfl|rfl
  ·exact .inl ⟨⟨_,rfl⟩,hp _ (by simp) (by simp)⟩
  ·exact h4.imp (λq=>⟨⟨_,aa q.1⟩,q.2⟩) id
  ·exact .inr h5
 ·have pv:=hp .v (by simp) (by simp)
  rcases ht with rfl|rfl|rfl
  ·omega
  ·rcases hu with rfl|rfl|rfl
   ·omega
   ·rfl
   ·exact absurd e h6
  ·rcases hu with rfl|rfl|rfl
   ·omega
   ·exact absurd e.symm h6
   ·rfl
theorem SY{D:Vd}{p p' : Tg->Nat}(hp:∀t,t ≠ .bl->t ≠ .rw D.BL.length->p' t=p t):D.bG.tW p' = ⟨none,(List.range D.BL.length).map (λx=>AV.sl (p (.rw x)) (D.row x).length 0 (D.row x).length) ++ [AV.sl (p' (.rw D.BL.length)) D.n.calls.toNat 0 D.n.calls.toNat],.live⟩:=by
 unfold Vd.tW;rw[show D.bG.BL.length=D.BL.length+1 by simp[Vd.bG],mE,kY]
 congr 2
 ·refine gf λx hx=>?_
  have:=cy.1 hx;rw[uS,aa (by omega),hp _ (by simp) (by simp;omega)]
 ·simp[uS]
theorem aln{Q:Ex->St->Prop}{O:Nat->Option ag}{x:Nat}
  (D:Vd) (p:Tg->Nat) (σ:List ag) (hS:VS D O p σ) (hn:D.n.Ok) (hx:x<=1000) (hB:D.BL.length=x)
  (h1:∀p' τ,VS D.bG O p' τ->p' .v=p .v->WK L zO (Jt (p .v) x) none τ Q):WK L vJ (Jt (p .v) x) none σ Q:=by
 unfold vJ;have hv:=hS.has .v _ rfl;unfold Vd.box at hv;have XE:=hn.calls;have l1:=hS.lt (t:=.v) rfl
 by_cases yS:D.BL=[]
 ·have e1:cQ (p .bl) D.BL.length = .ah:=by rw[yS];rfl
  have b1:∀B C:ag,ak (σ ++ [B,C]) (p .v)=_:=λB C=>gi (r:=[B,C]) hv;simp[-al,hv,e1,b1];refine⟨by omega,?_⟩
  have pt:∀t,t ≠ Tg.bl->t ≠ Tg.rw D.BL.length->(λt=>if t=Tg.bl then σ.length+1 else if t=Tg.rw D.BL.length then σ.length else p t) t=p t:=λt h1 h2=>by
   show(if t=Tg.bl then σ.length+1 else if t=Tg.rw D.BL.length then σ.length else p t)=p t
   rw[aa h1,aa h2]
  have Lh:(λt=>if t=Tg.bl then σ.length+1 else if t=Tg.rw D.BL.length then σ.length else p t) .bl=σ.length+1:=ab rfl
  have SZ:(λt=>if t=Tg.bl then σ.length+1 else if t=Tg.rw D.BL.length then σ.length else p t) (.rw D.BL.length)=σ.length:=by simp
  generalize (λt=>if t=Tg.bl then σ.length+1 else if t=Tg.rw D.BL.length then σ.length else p t)=p' at *
  have l4:∀B C:ag,p .v<(σ ++ [B,C]).length:=λB C=>by simp;omega
  have hk:D.BL.length=0:=by rw[yS];rfl
  refine h1 p' _ (hS.bG pt ?_ ?_ ?_ (λt B h1 h2 hB=>by rw[aO (hS.ne (t:=.v) rfl hB (Ne.symm h1))];exact gi (hS.has t B hB)) (.inr (by omega)) (by omega) (by omega)) (pt _ (by simp) (by simp))
  ·rw[Lh,aO (by omega),Jj,SY pt,SZ,hk]
   rfl
  ·rw[SZ,aO (by omega),iq]
  ·rw[cE (l4 _ _)]
   unfold Vd.box;simp[Vd.bG,yS,Lh,pt,cQ]
 ·have ni:=hS.has .bl _ (aa yS)
  unfold Vd.tW at ni;have e1:cQ (p .bl) D.BL.length = .sl (p .bl) D.BL.length 0 D.BL.length:=aa λe=>yS (dW e);have n2:p .bl ≠ p .v:=hS.ne (t:=.bl) (u:=.v) (aa yS) rfl (by simp)
  have b2:∀(Q:List ag) B,ak (ay Q (p .bl) B) (p .v)=ak Q (p .v):=λQ B=>aO n2;have b1:∀B:ag,ak (σ ++ [B]) (p .v)=_:=λB=>gi (r:=[B]) hv;have b3:∀B:ag,ak (σ ++ [B]) (p .bl)=_:=λB=>gi (r:=[B]) ni;have l3:=hS.lt (t:=.bl) (aa yS);simp[-al,hv,e1,ni,b1,b2,b3];refine⟨by omega,by omega,?_⟩
  have pt:∀t,t ≠ Tg.bl->t ≠ Tg.rw D.BL.length->(λt=>if t=Tg.rw D.BL.length then σ.length else p t) t=p t:=λt h1 h2=>aa h2
  have Lh:(λt=>if t=Tg.rw D.BL.length then σ.length else p t) .bl=p .bl:=by simp
  have SZ:(λt=>if t=Tg.rw D.BL.length then σ.length else p t) (.rw D.BL.length)=σ.length:=by simp
  generalize (λt=>if t=Tg.rw D.BL.length then σ.length else p t)=p' at *
  have l4:∀B:ag,p .bl<(σ ++ [B]).length:=λB=>by simp;omega
  have l5:∀B C:ag,p .v<(ay (σ ++ [B]) (p .bl) C).length:=λB C=>by rw[bZ];simp;omega
  refine h1 p' _ (hS.bG pt ?_ ?_ ?_ (λt B h1 h2 hB=>by rw[aO (hS.ne (t:=.v) rfl hB (Ne.symm h1)),aO (hS.ne (t:=.bl) (aa yS) hB (Ne.symm h2))];exact gi (hS.has t B hB)) (.inl ⟨yS,Lh⟩) (by omega) (by omega)) (pt _ (by simp) (by simp))
  ·rw[Lh,aO n2.symm,cE (l4 _),SY pt,SZ]
  ·rw[SZ,aO (by omega),aO (by omega),iq]
  ·rw[cE (l5 _ _)]
   unfold Vd.box;simp[Vd.bG,Lh,pt,cQ]
end Ab
