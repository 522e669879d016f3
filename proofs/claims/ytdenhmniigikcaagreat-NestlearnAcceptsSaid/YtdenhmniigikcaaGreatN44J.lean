/- All vectors: a round, and close. All vectors: close. Condition: none. -/
import Derived.Test.YtdenhmniigikcaaGreatN44H
set_option linter.all false
set_option maxRecDepth 100000
set_option maxHeartbeats 4000000
namespace Ab
theorem me.eO{P:List Int->Prop}{D:Vd}(h:me P D){x:Nat}(hx:x=D.IN.length) (hk:x<D.K.length) (hv:∀v∈D.gQ x,v∈D.K):me P (D.eO (idxs D.K (D.gQ x))):=by
 refine⟨⟨h.ok.ok,h.ok.st,h.ok.el,h.ok.plc⟩,h.nd,h.pr,h.h0,λy hy=>?_,h.rl,h.bl⟩;have km : y<D.IN.length+1:=by simpa[Vd.eO]using hy
 show y<D.K.length/\ix (D.IN ++ [idxs D.K (D.gQ x)]) (y:Int)=idxs D.K (D.gQ y)/\∀v∈D.gQ y,v∈D.K;rw[JZ km]
 by_cases e:y<D.IN.length
 ·rw[ae e];exact h.aR y e
 ·have:y=x:=by omega
  subst this;rw[ab e];exact⟨hk,rfl,hv⟩
theorem me.bM{P:List Int->Prop}{D:Vd}(h:me P D):me P D.bM:=by
 have hl:D.bM.BL.length=D.BL.length+1:=by simp[Vd.bM]
 refine⟨⟨h.ok.ok,h.ok.st,h.ok.el,h.ok.plc⟩,h.nd,h.pr,h.h0,h.aR,λx hx=>?_,λx c y hx hc hy=>?_⟩
 ·rw[uX]
  split
  ·simp;rfl
  ·exact h.rl x (by omega)
 ·rw[w6]at hy ⊢
  by_cases e:x=D.BL.length
  ·rw[ae e]at hy;simp at hy
  ·rw[ab e]at hy ⊢
   exact h.bl x c y (by omega) hc hy
def clB:IC:=(.seq (.aa Sc)
 (.seq (.seq (.aa Sd)
 (.seq (.block 2 (.loop Se)) (.lB 4))) J4))
theorem TH{P:List Int->Prop}{n:ak}{plc:List Int}(hP:GU P n plc){Q:Ex->St->Prop}{O:Nat->Option ag}{x:Nat}
  (D:Vd) (p:Tg->Nat) (σ:List ag) (h:VS D O p σ) (hV:me P D) (Fi:D.n=n) (TJ:D.plc=plc) (hx:x<D.K.length) (hK:D.K.length<=512) (hI:D.IN.length=x) (hB:D.BL.length=x) (hl:∀x' c', x' < x->c' < D.n.calls.toNat->(D.bX x' c').length=x)
  (h1:∀D' p' τ,Fg P n plc O (p .v) x D' p' τ->D'.K.length<=600->vM D' x 0 0->WK L z7 (J2 (p .v) x) none τ Q):WK L clB (J2 (p .v) x) none σ Q:=by
 unfold clB;have hD:=hV.ok;have hn:=hD.ok;have eZ:=hn.aj;have hv:=h.has .v _ rfl;unfold Vd.box at hv;have qG:∀B:ag,al (σ ++ [B]) (p .v)=_:=λB=>gn (r:=[B]) hv;simp[-ao,qG];have rl:(D.gQ x).length=D.n.aj.toNat:=by simp[Vd.gQ]
 refine bu (λq:Nat×List ag=>[(2,.int q.1),(4,.sl σ.length q.1 0 q.1)]) (λq=>q.2)
  (λq=>q.1<=D.n.aj.toNat/\VS {D with K:=aH D.K ((D.gQ x).take q.1)} (tB O σ.length (fy (idxs (aH D.K ((D.gQ x).take q.1)) ((D.gQ x).take q.1)))) p q.2) (λq=>D.n.aj.toNat-q.1) (0,σ ++ [fy []]) (by simp[bY]) ⟨by simp,by simpa[aH,idxs]using h.push _⟩ ?_
 rintro⟨r,qj⟩ ⟨r0,hS⟩;dsimp only at r0 hS ⊢;have w4:=hD.J1 hx;have L4:∀v∈D.gQ x,P v:=λv hv=>by
  obtain⟨i,hi,rfl⟩:=cU.1 hv;have:=cA.1 hi;rw[Fi];exact hP.aft _ (hV.kx hx) i (by omega) (by rw[<-Fi];omega)
 generalize yV:D.gQ x=vs at *;obtain⟨ext,pP,Fe⟩:=wZ (vs.take r) D.K;have vK:ix (aH D.K (vs.take r)) (x:Int)=ix D.K (x:Int):=by rw[pP,uW hx]
 have pL:=hS.view;have hb:=hS.has (.old σ.length) _ wY;rw[hS.old]at hb
 by_cases hr:r<D.n.aj.toNat
 ·have pQ:(r:Int)<D.n.aj:=by omega
  have hDr:=hD.aH (vs:=vs.take r) λv hv=>w4 v (List.mem_of_mem_take hv);have ql:ix vs (r:Int)=(ix D.K (x:Int)).map λs=>ix (ix D.n.inner s) (r:Int):=by
   rw[<-yV,Vd.gQ,jx (by omega) (by simp;omega)]
   simp[aT (show r<(List.range D.n.aj.toNat).length by simp;omega)]
  have hlx:=hD.kx hx;have sr:=hD.el;have JY:(x:Int)<((aH D.K (vs.take r)).length:Int):=by rw[pP];simp;omega
  have hKl:(aH D.K (vs.take r)).length<=2000:=by rw[pP,bz];have:(vs.take r).length<=r:=List.length_take_le r vs;omega
  have hA:=amg (Vd.vcs {D with K:=aH D.K (vs.take r)}) hn x r ⟨by omega,JY⟩ ⟨by omega,pQ⟩ (by show D.n.tz (ix (aH D.K (vs.take r)) (x:Int));rw[vK];exact hlx.1) (by show(ix (aH D.K (vs.take r)) (x:Int)).length<=1000;rw[vK];omega)
  obtain⟨z,gr,hA,hz⟩:=dS hA;have hz:cx gr true z=some (iL (ix vs (r:Int))):=by
   rw[hz,ql];show some (iL ((ix (aH D.K (vs.take r)) (x:Int)).map λs=>ix (ix D.n.inner s) (r:Int)))=_;rw[vK]
  have tZ:=w4 _ (aU (l:=vs) (n:=(r:Int)) (by omega) (by omega))
  have tk:=lj (w:=vs) (k:=r) (by omega)
  have dY:=Fc (K:=D.K) (vs:=vs.take r) (l:=ix vs (r:Int));generalize ix vs (r:Int)=l at *;have Tz:=Tm {D with K:=aH D.K (vs.take r)} _ p qj hS l (zX hn tZ.1) (λk hk=>zX hn (hDr.st k hk).1) (by omega) (λe=>by have h0:(aH D.K (vs.take r)).length=0:=(by dsimp only at e;rw[e];rfl);omega) (by dsimp only;omega)
  obtain⟨rv,τ,hN,rfl,uV,hlen⟩:=dS Tz;clear Tz;have zY:=uV.has (.old σ.length) _ wY;rw[uV.old]at zY;have iC:(idxs (aH D.K (vs.take r)) (vs.take r)).length=r:=by simp[idxs];omega
  generalize idxs (aH D.K (vs.take r)) (vs.take r)=row at *;simp[-ao,pQ,pL,hA,hz,hN,zY];refine⟨⟨iC,by split<;>rfl⟩,by omega,by omega,aX (r+1,_) (by simp[iC]) rfl ⟨by dsimp only;omega,?_⟩ (by dsimp only;omega)⟩
  dsimp only;rw[tk,dY,zV];rw[To]at uV;have:=uV.put (b:=σ.length) (if_pos rfl) (fy (row ++ [(((aH D.K (vs.take r)).idxOf l:Nat):Int)]));have e:fy (row ++ [(((aH D.K (vs.take r)).idxOf l:Nat):Int)])=⟨none,row.map AV.int ++ [.int (((aH D.K (vs.take r)).idxOf l:Nat):Int)],.live⟩:=by simp
  rw[<-e];refine this.zU λi B hB=>?_;unfold tB at hB ⊢;split
  ·rename_i hi;simpa[hi]using hB
  ·rename_i hi;simpa[hi]using hB
 ·have er:r=D.n.aj.toNat:=by omega
  have pQ:¬(r:Int)<D.n.aj:=by omega
  rw[gu (by omega)]at hS hb pL pP vK
  have iC:(idxs (aH D.K vs) vs).length=r:=by simp[idxs];omega
  simp[-ao,pQ];refine zW hb (by simp) iC.symm ?_
  have vL:∀row:List Int,∀i B,O i=some B->tB (tB O σ.length (fy row)) σ.length ⟨none,row.map .int,.dead⟩ i=some B:=λrow i B hB=>by
   have h1:=h.lt (t:=.old i) hB;rw[h.old]at h1;simp[tB,show i ≠ σ.length by omega,hB]
  have iI:=(hS.put (b:=σ.length) (ae rfl) ⟨none,(idxs (aH D.K vs) vs).map .int,.dead⟩).zU (vL _);have hV2:=hV.grow w4 L4;have haf:Vd.gQ {D with K:=aH D.K vs} x=vs:=by
   show(List.range D.n.aj.toNat).map (λ(i:Nat)=>(ix (aH D.K vs) (x:Int)).map λs=>ix (ix D.n.inner s) (i:Int))=_;rw[vK,<-yV];rfl
  have oq:x<(aH D.K vs).length:=by rw[pP];simp;omega
  have hV3:=hV2.eO (x:=x) hI.symm oq (by rw[haf];exact λv hv=>tC (.inl hv))
  rw[haf]at hV3;have hlen:(aH D.K vs).length<=600:=by rw[pP,bz];have:(vs.take r).length<=r:=List.length_take_le r vs;omega
  dsimp only at hV3;generalize zZ:idxs (aH D.K vs) vs=row at *;generalize aml:az qj σ.length ⟨none,row.map .int,.dead⟩=pR at *;simp[-ao];rw[JW];refine amr (row:=row) {D with K:=aH D.K vs} p pR iI (by omega) hI λp' τ mq mN=>?_
  rw[<-mN];refine ams (Vd.eO {D with K:=aH D.K vs} row) p' τ mq hn (by omega) hB λp4 τ4 Fh w7=>?_
  rw[<-w7];rw[<-mN,<-w7]at h1;refine h1 _ p4 τ4 ⟨Fh,hV3.bM,Fi,TJ,rfl,by simp[Vd.bM,Vd.eO,hI],oq⟩ hlen ⟨by simp[Vd.bM,Vd.eO,hB],λx' c' h1 h2=>?_,λc' h2=>?_⟩
  ·rw[w6,ab (by show ¬x' = D.BL.length;omega)]
   rw[ab (by omega)]
   exact hl x' c' h1 h2
  ·rw[w6,ae (by show x=D.BL.length;omega)]
   simp
structure Full (D:Vd):Prop where
 i:D.IN.length=D.K.length
 b:D.BL.length=D.K.length
 k:D.K.length<=512
 c:∀x c,x<D.K.length->c<D.n.calls.toNat->(D.bX x c).length=D.K.length
theorem amt{P:List Int->Prop}(D:Vd) (hP:GU P D.n D.plc){O:Nat->Option ag}(p:Tg->Nat) (σ:List ag) (h:VS D O p σ) (hV:me P D) (hI:D.IN=[]) (hB:D.BL=[]) (hK:D.K.length<=512) :
  LX L Ev [.ptr (p .v) 16 0] σ (λr τ=>∃D' p', VS D' O p' τ/\me P D' /\D'.n=D.n/\D'.plc=D.plc/\p' .v=p .v/\((r = .bool true/\Full D')\/(r = .bool false/\512<D'.K.length))):=by
 refine ait rfl ?_;simp[-ao];refine bu (λq:Nat×List ag=>[(1,.int q.1)]) (λq=>q.2)
  (λq=>∃D' p', VS D' O p' q.2/\me P D' /\(D'.n=D.n/\D'.plc=D.plc/\p' .v=p .v)/\D'.IN.length=q.1/\D'.BL.length=q.1/\D'.K.length<=512/\q.1<=D'.K.length/\∀x' c', x' < q.1->c' < D'.n.calls.toNat->(D'.bX x' c').length=q.1) (λq=>513-q.1) (0,σ) (by simp[bY]) ⟨D,p,h,hV,⟨rfl,rfl,rfl⟩,by simp[hI],by simp[hB],hK,by simp,λx' c' h=>by dsimp only at h;omega⟩ ?_
 rintro⟨x,qj⟩ ⟨D1,p1,hS,hV1,⟨hn,hp,hb⟩,vO,hB1,LZ,JY,sd⟩;dsimp only at hS vO hB1 JY sd ⊢;have hv:=hS.has .v _ rfl;unfold Vd.box at hv;rw[hb]at hv;show WK L (.seq (.seq (.aa Sb) (.cond 14 .skip (.exit 0))) (.seq (.block 1 clB) (.aa Sp))) _ _ _ _
 by_cases hx:x<D1.K.length
 ·have bR :=bH (show(x:Int)<(D1.K.length:Int)by omega)
  simp[-ao,hv,bR];rw[<-hb];refine TH (n:=D.n) (plc:=D.plc) hP D1 p1 qj hS hV1 hn hp hx LZ vO hB1 sd λD2 p2 τ iI hK2 lY=>?_;refine amq hP D2 p2 τ iI hK2 lY (λD3 p3 τ3 mq L2 hK3=>?_) λD3 p3 τ3 mq hK3=>?_
  ·simp[-ao]
   refine⟨by omega,aX (x+1,τ3) (by simp) rfl ⟨D3,p3,mq.s,mq.v,⟨mq.n,mq.plc,mq.p⟩,mq.i,L2.bl,hK3,by have:=mq.x;dsimp only;omega,λx' c' h1 h2=>?_⟩ (by dsimp only;omega)⟩
   dsimp only at h1 ⊢;have r8 : c' < D3.n.calls.toNat:=by omega
   by_cases e:x' < x
   ·rw[L2.lo x' c' e r8, ae (by omega)]
   ·have:x' = x:=by omega
    subst this;rw[L2.hi c' r8, ab (by omega)]
  ·simp[-ao]
   exact⟨D3,p3,mq.s,mq.v,mq.n,mq.plc,mq.p,hK3⟩
 ·have bR :=gl (show ¬(x:Int)<(D1.K.length:Int)by omega)
  simp[-ao,hv,bR];exact⟨D1,p1,hS,hV1,hn,hp,hb,by omega,by omega,LZ,λx' c' h1 h2=>by rw[sd x' c' (by omega) h2];omega⟩
end Ab
