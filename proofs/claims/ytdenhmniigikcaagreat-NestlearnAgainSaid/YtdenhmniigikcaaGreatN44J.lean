/- All vectors: a round, and close. Condition: none. -/
import Derived.Test.YtdenhmniigikcaaGreatN44H
set_option linter.all false
set_option maxRecDepth 100000
set_option maxHeartbeats 4000000
namespace Ab
theorem mb.eM{P:List Int->Prop}{D:Vd}(h:mb P D){x:Nat}(hx:x=D.IN.length) (hk:x<D.K.length) (hv:∀v∈D.gL x,v∈D.K):mb P (D.eM (idxs D.K (D.gL x))):=by
 refine⟨⟨h.ok.ok,h.ok.st,h.ok.el,h.ok.plc⟩,h.nd,h.pr,h.h0,λy hy=>?_,h.rl,h.bl⟩;have kj : y<D.IN.length+1:=by simpa[Vd.eM]using hy
 show y<D.K.length/\ix (D.IN ++ [idxs D.K (D.gL x)]) (y:Int)=idxs D.K (D.gL y)/\∀v∈D.gL y,v∈D.K;rw[Jq kj]
 by_cases e:y<D.IN.length
 ·rw[ab e];exact h.aQ y e
 ·have:y=x:=by omega
  subst this;rw[aa e];exact⟨hk,rfl,hv⟩
theorem mb.bG{P:List Int->Prop}{D:Vd}(h:mb P D):mb P D.bG:=by
 have hl:D.bG.BL.length=D.BL.length+1:=by simp[Vd.bG]
 refine⟨⟨h.ok.ok,h.ok.st,h.ok.el,h.ok.plc⟩,h.nd,h.pr,h.h0,h.aQ,λx hx=>?_,λx c y hx hc hy=>?_⟩
 ·rw[uS]
  split
  ·simp;rfl
  ·exact h.rl x (by omega)
 ·rw[wX]at hy ⊢
  by_cases e:x=D.BL.length
  ·rw[ab e]at hy;simp at hy
  ·rw[aa e]at hy ⊢
   exact h.bl x c y (by omega) hc hy
def clB:IC:=(.seq (.ae Ru)
 (.seq (.seq (.ae Rv)
 (.seq (.block 2 (.loop Rw)) (.lu 4))) Jv))
theorem S2{P:List Int->Prop}{n:ao}{plc:List Int}(hP:Gi P n plc){Q:Ex->St->Prop}{O:Nat->Option ag}{x:Nat}
  (D:Vd) (p:Tg->Nat) (σ:List ag) (h:VS D O p σ) (hV:mb P D) (EN:D.n=n) (S3:D.plc=plc) (hx:x<D.K.length) (hK:D.K.length<=512) (hI:D.IN.length=x) (hB:D.BL.length=x) (hl:∀x' c', x' < x->c' < D.n.calls.toNat->(D.bS x' c').length=x)
  (h1:∀D' p' τ,EL P n plc O (p .v) x D' p' τ->D'.K.length<=600->vI D' x 0 0->WK L zO (Jt (p .v) x) none τ Q):WK L clB (Jt (p .v) x) none σ Q:=by
 unfold clB;have hD:=hV.ok;have hn:=hD.ok;have fc:=hn.aj;have hv:=h.has .v _ rfl;unfold Vd.box at hv;have qC:∀B:ag,ak (σ ++ [B]) (p .v)=_:=λB=>gi (r:=[B]) hv;simp[-al,qC];have rl:(D.gL x).length=D.n.aj.toNat:=by simp[Vd.gL]
 refine bC (λq:Nat×List ag=>[(2,.int q.1),(4,.sl σ.length q.1 0 q.1)]) (λq=>q.2)
  (λq=>q.1<=D.n.aj.toNat/\VS {D with K:=aH D.K ((D.gL x).take q.1)} (tw O σ.length (fv (idxs (aH D.K ((D.gL x).take q.1)) ((D.gL x).take q.1)))) p q.2) (λq=>D.n.aj.toNat-q.1) (0,σ ++ [fv []]) (by simp[bT]) ⟨by simp,by simpa[aH,idxs]using h.push _⟩ ?_
 rintro⟨r,qf⟩ ⟨r0,hS⟩;dsimp only at r0 hS ⊢;have wV:=hD.Js hx;have Li:∀v∈D.gL x,P v:=λv hv=>by
  obtain⟨i,hi,rfl⟩:=cR.1 hv;have:=cy.1 hi;rw[EN];exact hP.aft _ (hV.kx hx) i (by omega) (by rw[<-EN];omega)
 generalize yL:D.gL x=vs at *;obtain⟨ext,pM,EJ⟩:=wT (vs.take r) D.K;have vG:ix (aH D.K (vs.take r)) (x:Int)=ix D.K (x:Int):=by rw[pM,uR hx]
 have pH:=hS.view;have hb:=hS.has (.old σ.length) _ wS;rw[hS.old]at hb
 by_cases hr:r<D.n.aj.toNat
 ·have pN:(r:Int)<D.n.aj:=by omega
  have hDr:=hD.aH (vs:=vs.take r) λv hv=>wV v (List.mem_of_mem_take hv);have qj:ix vs (r:Int)=(ix D.K (x:Int)).map λs=>ix (ix D.n.inner s) (r:Int):=by
   rw[<-yL,Vd.gL,jt (by omega) (by simp;omega)]
   simp[aS (show r<(List.range D.n.aj.toNat).length by simp;omega)]
  have hlx:=hD.kx hx;have sg:=hD.el;have Jp:(x:Int)<((aH D.K (vs.take r)).length:Int):=by rw[pM];simp;omega
  have hKl:(aH D.K (vs.take r)).length<=2000:=by rw[pM,bu];have:(vs.take r).length<=r:=List.length_take_le r vs;omega
  have hA:=ak8 (Vd.vcs {D with K:=aH D.K (vs.take r)}) hn x r ⟨by omega,Jp⟩ ⟨by omega,pN⟩ (by show D.n.tu (ix (aH D.K (vs.take r)) (x:Int));rw[vG];exact hlx.1) (by show(ix (aH D.K (vs.take r)) (x:Int)).length<=1000;rw[vG];omega)
  obtain⟨z,gk,hA,hz⟩:=dS hA;have hz:cv gk true z=some (iL (ix vs (r:Int))):=by
   rw[hz,qj];show some (iL ((ix (aH D.K (vs.take r)) (x:Int)).map λs=>ix (ix D.n.inner s) (r:Int)))=_;rw[vG]
  have tV:=wV _ (aZ (l:=vs) (n:=(r:Int)) (by omega) (by omega))
  have tk:=lg (w:=vs) (k:=r) (by omega)
  have eu:=EI (K:=D.K) (vs:=vs.take r) (l:=ix vs (r:Int));generalize ix vs (r:Int)=l at *;have SQ:=SG {D with K:=aH D.K (vs.take r)} _ p qf hS l (zJ hn tV.1) (λk hk=>zJ hn (hDr.st k hk).1) (by omega) (λe=>by have h0:(aH D.K (vs.take r)).length=0:=(by dsimp only at e;rw[e];rfl);omega) (by dsimp only;omega)
  obtain⟨rv,τ,hN,rfl,uQ,hlen⟩:=dS SQ;clear SQ;have zK:=uQ.has (.old σ.length) _ wS;rw[uQ.old]at zK;have iv:(idxs (aH D.K (vs.take r)) (vs.take r)).length=r:=by simp[idxs];omega
  generalize idxs (aH D.K (vs.take r)) (vs.take r)=row at *;simp[-al,pN,pH,hA,hz,hN,zK];refine⟨⟨iv,by split<;>rfl⟩,by omega,by omega,ba (r+1,_) (by simp[iv]) rfl ⟨by dsimp only;omega,?_⟩ (by dsimp only;omega)⟩
  dsimp only;rw[tk,eu,zH];rw[SH]at uQ;have:=uQ.put (b:=σ.length) (if_pos rfl) (fv (row ++ [(((aH D.K (vs.take r)).idxOf l:Nat):Int)]));have e:fv (row ++ [(((aH D.K (vs.take r)).idxOf l:Nat):Int)])=⟨none,row.map AV.int ++ [.int (((aH D.K (vs.take r)).idxOf l:Nat):Int)],.live⟩:=by simp
  rw[<-e];refine this.zG λi B hB=>?_;unfold tw at hB ⊢;split
  ·rename_i hi;simpa[hi]using hB
  ·rename_i hi;simpa[hi]using hB
 ·have er:r=D.n.aj.toNat:=by omega
  have pN:¬(r:Int)<D.n.aj:=by omega
  rw[gl (by omega)]at hS hb pH pM vG
  have iv:(idxs (aH D.K vs) vs).length=r:=by simp[idxs];omega
  simp[-al,pN];refine zI hb (by simp) iv.symm ?_
  have vH:∀row:List Int,∀i B,O i=some B->tw (tw O σ.length (fv row)) σ.length ⟨none,row.map .int,.dead⟩ i=some B:=λrow i B hB=>by
   have h1:=h.lt (t:=.old i) hB;rw[h.old]at h1;simp[tw,show i ≠ σ.length by omega,hB]
  have iC:=(hS.put (b:=σ.length) (ab rfl) ⟨none,(idxs (aH D.K vs) vs).map .int,.dead⟩).zG (vH _);have hV2:=hV.grow wV Li;have haf:Vd.gL {D with K:=aH D.K vs} x=vs:=by
   show(List.range D.n.aj.toNat).map (λ(i:Nat)=>(ix (aH D.K vs) (x:Int)).map λs=>ix (ix D.n.inner s) (i:Int))=_;rw[vG,<-yL];rfl
  have nZ:x<(aH D.K vs).length:=by rw[pM];simp;omega
  have hV3:=hV2.eM (x:=x) hI.symm nZ (by rw[haf];exact λv hv=>tx (.inl hv))
  rw[haf]at hV3;have hlen:(aH D.K vs).length<=600:=by rw[pM,bu];have:(vs.take r).length<=r:=List.length_take_le r vs;omega
  dsimp only at hV3;generalize zL:idxs (aH D.K vs) vs=row at *;generalize ale:ay qf σ.length ⟨none,row.map .int,.dead⟩=pO at *;simp[-al];rw[Jn];refine alm (row:=row) {D with K:=aH D.K vs} p pO iC (by omega) hI λp' τ ml mJ=>?_
  rw[<-mJ];refine aln (Vd.eM {D with K:=aH D.K vs} row) p' τ ml hn (by omega) hB λp4 τ4 EM wY=>?_
  rw[<-wY];rw[<-mJ,<-wY]at h1;refine h1 _ p4 τ4 ⟨EM,hV3.bG,EN,S3,rfl,by simp[Vd.bG,Vd.eM,hI],nZ⟩ hlen ⟨by simp[Vd.bG,Vd.eM,hB],λx' c' h1 h2=>?_,λc' h2=>?_⟩
  ·rw[wX,aa (by show ¬x' = D.BL.length;omega)]
   rw[aa (by omega)]
   exact hl x' c' h1 h2
  ·rw[wX,ab (by show x=D.BL.length;omega)]
   simp
structure Full (D:Vd):Prop where
 i:D.IN.length=D.K.length
 b:D.BL.length=D.K.length
 k:D.K.length<=512
 c:∀x c,x<D.K.length->c<D.n.calls.toNat->(D.bS x c).length=D.K.length
theorem alo{P:List Int->Prop}(D:Vd) (hP:Gi P D.n D.plc){O:Nat->Option ag}(p:Tg->Nat) (σ:List ag) (h:VS D O p σ) (hV:mb P D) (hI:D.IN=[]) (hB:D.BL=[]) (hK:D.K.length<=512) :
  LX L D0 [.ptr (p .v) 16 0] σ (λr τ=>∃D' p', VS D' O p' τ/\mb P D' /\D'.n=D.n/\D'.plc=D.plc/\p' .v=p .v/\((r = .bool true/\Full D')\/(r = .bool false/\512<D'.K.length))):=by
 refine ahD rfl ?_;simp[-al];refine bC (λq:Nat×List ag=>[(1,.int q.1)]) (λq=>q.2)
  (λq=>∃D' p', VS D' O p' q.2/\mb P D' /\(D'.n=D.n/\D'.plc=D.plc/\p' .v=p .v)/\D'.IN.length=q.1/\D'.BL.length=q.1/\D'.K.length<=512/\q.1<=D'.K.length/\∀x' c', x' < q.1->c' < D'.n.calls.toNat->(D'.bS x' c').length=q.1) (λq=>513-q.1) (0,σ) (by simp[bT]) ⟨D,p,h,hV,⟨rfl,rfl,rfl⟩,by simp[hI],by simp[hB],hK,by simp,λx' c' h=>by dsimp only at h;omega⟩ ?_
 rintro⟨x,qf⟩ ⟨D1,p1,hS,hV1,⟨hn,hp,hb⟩,vK,hB1,Le,Jp,r8⟩;dsimp only at hS vK hB1 Jp r8 ⊢;have hv:=hS.has .v _ rfl;unfold Vd.box at hv;rw[hb]at hv;show WK L (.seq (.seq (.ae Rt) (.cond 14 .skip (.exit 0))) (.seq (.block 1 clB) (.ae RE))) _ _ _ _
 by_cases hx:x<D1.K.length
 ·have bJ :=bM (show(x:Int)<(D1.K.length:Int)by omega)
  simp[-al,hv,bJ];rw[<-hb];refine S2 (n:=D.n) (plc:=D.plc) hP D1 p1 qf hS hV1 hn hp hx Le vK hB1 r8 λD2 p2 τ iC hK2 lU=>?_;refine alj hP D2 p2 τ iC hK2 lU (λD3 p3 τ3 ml Lf hK3=>?_) λD3 p3 τ3 ml hK3=>?_
  ·simp[-al]
   refine⟨by omega,ba (x+1,τ3) (by simp) rfl ⟨D3,p3,ml.s,ml.v,⟨ml.n,ml.plc,ml.p⟩,ml.i,Lf.bl,hK3,by have:=ml.x;dsimp only;omega,λx' c' h1 h2=>?_⟩ (by dsimp only;omega)⟩
   dsimp only at h1 ⊢;have r5 : c' < D3.n.calls.toNat:=by omega
   by_cases e:x' < x
   ·rw[Lf.lo x' c' e r5, ab (by omega)]
   ·have:x' = x:=by omega
    subst this;rw[Lf.hi c' r5, aa (by omega)]
  ·simp[-al]
   exact⟨D3,p3,ml.s,ml.v,ml.n,ml.plc,ml.p,hK3⟩
 ·have bJ :=gg (show ¬(x:Int)<(D1.K.length:Int)by omega)
  simp[-al,hv,bJ];exact⟨D1,p1,hS,hV1,hn,hp,hb,by omega,by omega,Le,λx' c' h1 h2=>by rw[r8 x' c' (by omega) h2];omega⟩
end Ab
