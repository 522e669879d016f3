/- Classes of vectors: the program. Condition: none. -/
import Derived.Test.YtdenhmniigikcaaGreatN44N
set_option linter.all false
set_option maxRecDepth 100000
set_option maxHeartbeats 4000000
namespace Ab
theorem alT{K:List (List Int)}{a b:List Int}(ha:a∈K) (hb:b∈K) (h:K.idxOf a=K.idxOf b):a=b:=by
 have h1:=List.idxOf_lt_length_of_mem ha;have h2:=List.idxOf_lt_length_of_mem hb;have e1:=List.getElem_idxOf h1;have e2:=List.getElem_idxOf h2;rw[<-e1,<-e2]
 congr 1
theorem Tz{K vs:List (List Int)}{x:Nat}(hx:x<vs.length):ix (idxs K vs) (x:Int)=((K.idxOf (ix vs (x:Int)):Nat):Int):=by
 unfold idxs;rw[jt (by omega) (by omega)]
theorem alU{vs:List (List Int)}{x y:Nat}(hx:x<vs.length) (hy:y<vs.length):ix (idxs (aH [] vs) vs) (x:Int)=ix (idxs (aH [] vs) vs) (y:Int)↔ix vs (x:Int)=ix vs (y:Int):=by
 rw[Tz hx,Tz hy];have h1:ix vs (x:Int)∈aH [] vs:=tx (.inl (aZ (by omega) (by omega)))
 have h2:ix vs (y:Int)∈aH [] vs:=tx (.inl (aZ (by omega) (by omega)))
 exact⟨λe=>alT h1 h2 (by omega),λe=>by rw[e]⟩
theorem TA:∀(n:Nat) (vs:List (List Int)),vs.length=n->Can (idxs (aH [] vs) vs) (aH [] vs).length
 |0,vs,h=>by
  have:vs=[]:=dW h;subst this;exact Can.nil
 |n+1,vs,h=>by
  have bY:vs ≠ []:=by intro e;subst e;simp at h
  obtain⟨d,v,rfl⟩:∃d v,vs=d ++ [v]:=⟨vs.dropLast,vs.getLast bY,(List.dropLast_concat_getLast bY).symm⟩;have ih:=TA n d (by simpa using h)
  rw[EI,zH]
  by_cases hm:v∈aH [] d
  ·rw[show iu (aH [] d) v=aH [] d from ab hm]
   exact ih.old (by omega) (by have:=List.idxOf_lt_length_of_mem hm;omega)
  ·rw[show iu (aH [] d) v=aH [] d ++ [v]from aa hm,List.idxOf_eq_length hm,bu]
   exact ih.new
theorem Can.put{c:List Int}{k v:Nat}(h:Can c k) (hv:v<=k):Can (c ++ [(v:Int)]) (max k (v+1)):=by
 by_cases e:v<k
 ·rw[show max k (v+1)=k by omega]
  exact h.old (by omega) (by omega)
 ·have:v=k:=by omega
  subst this;rw[show max v (v+1)=v+1 by omega]
  exact h.new
structure E0 (D:Vd) (st:Int) (cls:List Int) (k:Nat):Prop where
 can:Can cls k
 len:cls.length=D.K.length
 sep:∀x y:Nat,x<D.K.length->y<D.K.length->ix cls (x:Int) ≠ ix cls (y:Int)->w4 D st x y
 ac:∀x y:Nat,x<D.K.length->y<D.K.length->ix cls (x:Int)=ix cls (y:Int)->D.ac st x=D.ac st y
theorem TB{D:Vd}{cls:List Int}{x:Nat}(hx:x<D.K.length):ix (D.jc cls) (x:Int)=D.AY cls x:=by
 unfold Vd.jc;rw[jt (by omega) (by simp;omega),aS (show x<(List.range D.K.length).length by simp;omega)]
 simp
theorem TC{D:Vd}(h:jO D){cls:List Int}{k:Nat}(hc:Can cls k) (hl:cls.length=D.K.length){x:Nat}(hx:x<D.K.length):∀v∈D.jP cls x D.n.calls.toNat,0<=v/\v<=65535:=by
 have hk:=hc.len;have hf:=h.f.k;have key:∀l:List Int,(∀y∈l,0<=y/\y<(D.K.length:Int))->∀v∈l.map (ix cls),0<=v/\v<=65535:=λl ct v hv=>by
  obtain⟨y,hy,rfl⟩:=cR.1 hv;have h1:=ct y hy;have:=hc.fu _ (aZ (l:=cls) h1.1 (by omega))
  omega
 intro v hv;simp only[Vd.jP,Vd.mL,Vd.w3,kX,cB,eI,rq,cy]at hv;rcases hv with rfl|hv|⟨c,fW, z,hz,hv|hv⟩
 ·have:=hc.fu _ (aZ (l:=cls) (n:=(x:Int)) (by omega) (by omega));omega
 ·exact key _ (h.inl x hx).2 v hv
 ·exact key _ (h.rN x c z hx fW hz).2 v hv
 ·exact key _ (h.rN z c x hz fW hx).2 v hv
theorem E3{D:Vd}(h:jO D){cls:List Int}{k:Nat}(hc:Can cls k) (hl:cls.length=D.K.length){x y:Nat}(hx:x<D.K.length) (hy:y<D.K.length):ix (idxs (aH [] (D.jc cls)) (D.jc cls)) (x:Int)=ix (idxs (aH [] (D.jc cls)) (D.jc cls)) (y:Int)↔EZ D cls x y:=by
 have gy:(D.jc cls).length=D.K.length:=by simp[Vd.jc]
 rw[alU (by omega) (by omega),TB hx,TB hy,<-alS h hx hy]
 exact⟨λe=>Tx (TC h hc hl hx) (TC h hc hl hy) e,λe=>by unfold Vd.AY;rw[e]⟩
theorem w4.of{D:Vd}(h:jO D){st:Int}{cls:List Int}{k:Nat}(hc:E0 D st cls k){x y:Nat}(hx:x<D.K.length) (hy:y<D.K.length) (hn:¬EZ D cls x y):w4 D st x y:=by
 have key:∀a b:Int,0<=a->a<(D.K.length:Int)->0<=b->b<(D.K.length:Int)->ix cls a ≠ ix cls b->w4 D st a b:=λa b a0 a1 b0 b1 wG=>by
  have:=hc.sep a.toNat b.toNat (by omega) (by omega)
  rw[show((a.toNat:Nat):Int)=a by omega,show((b.toNat:Nat):Int)=b by omega]at this
  exact this wG
 have WC:∀x:Nat,x<D.K.length->∀i,0<=i->i<D.n.aj->0<=D.im x i/\D.im x i<(D.K.length:Int):=λx hx i i0 i1=>by
  have:=h.inl x hx;exact this.2 _ (aZ i0 (by omega))
 have qO:∀x z:Nat,x<D.K.length->z<D.K.length->∀c r,0<=c->c<D.n.calls->0<=r->r<D.n.aq->0<=D.bk x c z r/\D.bk x c z r<(D.K.length:Int):=λx z hx hz c r c0 c1 r0 r1=>by
  have:=h.rN x c.toNat z hx (by omega) hz
  unfold Vd.bS Vd.row at this;rw[show((c.toNat:Nat):Int)=c by omega]at this
  exact this.2 _ (aZ r0 (by omega))
 refine eS λE4=>hn ⟨eS λe=>E4 (hc.sep x y hx hy e),λi i0 i1=>eS λe=>E4 ?_,λc z r c0 c1 z0 z1 r0 r1=>eS λe=>E4 ?_,λc z r c0 c1 z0 z1 r0 r1=>eS λe=>E4 ?_⟩
 ·have a:=WC x hx i i0 i1
  have b:=WC y hy i i0 i1;exact .aQ _ _ i i0 i1 (key _ _ a.1 a.2 b.1 b.2 e)
 ·have a:=qO x z.toNat hx (by omega) c r c0 c1 r0 r1
  have b:=qO y z.toNat hy (by omega) c r c0 c1 r0 r1
  rw[show((z.toNat:Nat):Int)=z by omega]at a b
  exact .bl _ _ c z r c0 c1 z0 z1 r0 r1 (key _ _ a.1 a.2 b.1 b.2 e)
 ·have a:=qO z.toNat x (by omega) hx c r c0 c1 r0 r1
  have b:=qO z.toNat y (by omega) hy c r c0 c1 r0 r1
  rw[show((z.toNat:Nat):Int)=z by omega]at a b
  exact .br _ _ c z r c0 c1 z0 z1 r0 r1 (key _ _ a.1 a.2 b.1 b.2 e)
theorem E0.next{D:Vd}(h:jO D){st:Int}{cls:List Int}{k:Nat}(hc:E0 D st cls k):E0 D st (idxs (aH [] (D.jc cls)) (D.jc cls)) (aH [] (D.jc cls)).length:=by
 have gy:(D.jc cls).length=D.K.length:=by simp[Vd.jc]
 refine⟨TA _ _ rfl,by simp[idxs,gy],λx y hx hy e=>?_,λx y hx hy e=>?_⟩
 ·exact w4.of h hc hx hy λg=>e ((E3 h hc.can hc.len hx hy).2 g)
 ·exact hc.ac x y hx hy ((E3 h hc.can hc.len hx hy).1 e).e
structure WD (D:Vd) (st:Int) (cls:List Int) (k:Nat):Prop where
 c:E0 D st cls k
 JA:∀x y:Nat,x<D.K.length->y<D.K.length->ix cls (x:Int)=ix cls (y:Int)->EZ D cls x y
theorem E0.stop{D:Vd}(h:jO D){st:Int}{cls:List Int}{k:Nat}(hc:E0 D st cls k):((aH [] (D.jc cls)).length=k->WD D st cls k)/\k<=(aH [] (D.jc cls)).length:=by
 have hn:=hc.next h
 have hl:=hc.len;have lU:=hn.len;have:=hn.can.ref hc.can (by omega) λi j hi hj e=>((E3 h hc.can hc.len (by omega) (by omega)).1 e).e
 rcases this with⟨e1,e2⟩|aK
 ·exact⟨λ_=>⟨hc,λx y hx hy e=>(E3 h hc.can hc.len hx hy).1 (by rw[e1];exact e)⟩,by omega⟩
 ·exact⟨λe=>by omega,by omega⟩
def Vd.iO (D:Vd):Int:=ix D.plc D.n.start
def Vd.f0 (D:Vd) (x:Nat):Nat:=if D.ac D.iO (x:Int)=D.ac D.iO 0 then 0 else 1
def Vd.cn (D:Vd):Nat->Nat
 |0=>0
 |x+1=>max (D.cn x) (D.f0 x+1)
def Vd.fs (D:Vd) (x:Nat):List Int:=(List.range x).map λy=>((D.f0 y:Nat):Int)
theorem TD{D:Vd}{x:Nat}:D.fs (x+1)=D.fs x ++ [((D.f0 x:Nat):Int)]:=by simp[Vd.fs,mE]
theorem E5{D:Vd}{x:Nat}:(D.fs x).length=x:=by simp[Vd.fs]
theorem Gl{D:Vd}{x:Nat}:D.f0 x<=1:=by unfold Vd.f0;split<;>omega
theorem TE{D:Vd}:∀x:Nat,Can (D.fs x) (D.cn x)/\(0<x->1<=D.cn x)/\D.cn x<=2
 |0=>⟨Can.nil,by omega,by simp[Vd.cn]⟩
 |x+1=>by
  obtain⟨h1,h2,h3⟩:=TE (D:=D) x;have hf:=Gl (D:=D) (x:=x);have hv:D.f0 x<=D.cn x:=by
   by_cases e:x=0
   ·subst e;simp[Vd.f0]
   ·have:=h2 (by omega);omega
  rw[TD];refine⟨h1.put hv,λ_=>?_,?_⟩
  ·show 1<=max (D.cn x) (D.f0 x+1);omega
  ·show max (D.cn x) (D.f0 x+1)<=2;omega
theorem E6{f:Nat}{args:List AV}{α:Type}{g:α->AV}{R:α->Prop}(h:LX L f args [] (λr τ=>∃a,cv τ false r=some (g a)/\R a)):∃a,PC f args=some (g a)/\R a:=by
 obtain⟨r,τ,h1,a,h2,h3⟩:=dS h;refine⟨a,?_,h3⟩;unfold PC xD;rw[h1];exact h2
theorem alV (D:Vd) (h:jO D) (hD:tz D) (oD:D.n.start<(D.plc.length:Int)) (r7:0<=D.iO/\D.iO<(D.n.bj.length:Int)) :
  LX L D5 [D.vcs.av] [] (λr τ=>∃q:List Int×Nat,cv τ false r=some (.bQ [iL q.1,.int q.2])/\WD D D.iO q.1 q.2):=by
 refine ahE rfl ?_;have AX:=h.f.k;have bR:=hD.ok.start;have jY:=h.k;have hK:∀x:Nat,x<D.K.length->D.iO<((ix D.K (x:Int)).length:Int)/\0<=ix (ix D.K (x:Int)) D.iO/\ix (ix D.K (x:Int)) D.iO<(D.n.accept.length:Int):=λx hx=>by
  have:=hD.kx hx;have hl:D.iO<((ix D.K (x:Int)).length:Int):=by rw[this.2];exact r7.2
  exact⟨hl,this.1 _ (aZ r7.1 hl)⟩
 unfold Vd.iO at r7 hK;have Wx:=hK 0 jY;have hkz:=bM (show 0<(D.K.length:Int)by omega)
 rw[show((0:Nat):Int)=0 from rfl]at Wx;simp[-al,-List.map_replicate,bR.1,oD];refine⟨by omega,?_⟩
 refine bC (λx:Nat=>[(1,.int x),(8,.int (D.cn x))]) (λx=>[Zb (D.fs x++List.replicate (D.K.length-x) 0)]) (λx=>x<=D.K.length) (λx=>D.K.length-x) 0 (by simp[bT,Vd.cn,Vd.fs]) (by omega) ?_
 intro x x0;have hcn:=TE (D:=D) x
 by_cases hx:x<D.K.length
 ·have hKx:=hK x hx
  have KZ:(ix D.n.accept (ix (ix D.K (x:Int)) (ix D.plc D.n.start))=ix D.n.accept (ix (ix D.K 0) (ix D.plc D.n.start)))=(D.f0 x=0):=by
   apply propext;unfold Vd.f0 Vd.ac Vd.iO
   by_cases e:ix D.n.accept (ix (ix D.K (x:Int)) (ix D.plc D.n.start))=ix D.n.accept (ix (ix D.K 0) (ix D.plc D.n.start))
   ·simp[e]
   ·simp[e]
  have hs:=TD (D:=D) (x:=x);have hl:=E5 (D:=D) (x:=x);have jM:D.cn (x+1)=max (D.cn x) (D.f0 x+1):=rfl;have hr:D.K.length-x=(D.K.length-(x+1))+1:=by omega
  have hz:ix (D.fs x++List.replicate (D.K.length-(x+1)+1) 0) (x:Int)=0:=by
   rw[aS (by simp;omega),List.getElem_append_right (by omega)];simp
  have E7:(D.fs x++List.replicate (D.K.length-(x+1)+1) 0).set x 1=D.fs x ++ [1]++List.replicate (D.K.length-(x+1)) 0:=Jz hl;have yr:ix (D.fs x ++ [1]++List.replicate (D.K.length-(x+1)) 0) (x:Int)=1:=by
   rw[aS (by simp;omega),List.getElem_append_left (by simp;omega),List.getElem_append_right (by omega)];simp[hl]
  have alW:List.replicate (D.K.length-(x+1)+1) (0:Int)=[0]++List.replicate (D.K.length-(x+1)) 0:=by rw[uc];rfl
  have V9:=Gl (D:=D) (x:=x);generalize D.fs x=A at *;generalize hcx:D.cn x=k at *;rw[hr]
  by_cases he:D.f0 x=0
  ·rw[he]at hs jM
   simp[-al,-List.map_append,-List.map_replicate,hx,hKx,Wx,bR.1,oD,r7.1,hkz,KZ,he,hz,hl];have e2:A++List.replicate (D.K.length-(x+1)+1) (0:Int)=A ++ [((0:Nat):Int)]++List.replicate (D.K.length-(x+1)) 0:=by rw[alW];simp
   exact⟨by omega,by omega,by omega,ba (x+1) (by rw[jM];simp;omega) (by rw[hs,e2]) (by omega) (by omega)⟩
  ·have pM:D.f0 x=1:=by omega
   rw[pM]at hs jM;have JB:((A++List.replicate (D.K.length-(x+1)+1) 0).map AV.int).set x (AV.int 1)=(A ++ [1]++List.replicate (D.K.length-(x+1)) 0).map AV.int:=by rw[<-List.map_set,E7]
   have alX:A++(List.replicate (D.K.length-(x+1)+1) (0:Int)).set 0 1=A ++ [1]++List.replicate (D.K.length-(x+1)) 0:=by rw[uc];simp
   simp[-al,-List.map_append,-List.map_replicate,-List.append_assoc,hx,hKx,Wx,bR.1,oD,r7.1,hkz,KZ,he,hz,hl,alX,yr];exact⟨by omega,by omega,by omega,by omega,by omega,ba (x+1) (by rw[jM];simp;omega) (by rw[hs];simp) (by omega) (by omega)⟩
 ·have ex:x=D.K.length:=by omega
  subst ex;rw[Nat.sub_self,List.replicate_zero,List.append_nil];simp[-al];refine zI (b:=0) (l:=D.fs D.K.length) ?_ (by simp) E5.symm ?_
  ·unfold fv
   rw[aa λe=>by have:=E5 (D:=D) (x:=D.K.length);rw[e]at this;simp at this;omega]
  have h0:E0 D D.iO (D.fs D.K.length) (D.cn D.K.length):=by
   have qj:∀x:Nat,x<D.K.length->ix (D.fs D.K.length) (x:Int)=((D.f0 x:Nat):Int):=λx hx=>by
    unfold Vd.fs;rw[jt (by omega) (by simp;omega),aS (show x<(List.range D.K.length).length by simp;omega)]
    simp
   refine⟨hcn.1,E5,λx y hx hy e=>?_,λx y hx hy e=>?_⟩
   ·rw[qj x hx,qj y hy]at e
    refine .acc _ _ λe2=>e ?_;unfold Vd.f0;rw[e2]
   ·rw[qj x hx,qj y hy]at e
    unfold Vd.f0 at e
    by_cases e1:D.ac D.iO (x:Int)=D.ac D.iO 0<;>by_cases e2:D.ac D.iO (y:Int)=D.ac D.iO 0
    ·rw[e1,e2]
    ·simp[e1,e2]at e
    ·simp[e1,e2]at e
    ·cases h1:D.ac D.iO (x:Int)<;>cases h2:D.ac D.iO (y:Int)<;>cases h3:D.ac D.iO 0<;>simp_all
  simp[-al];refine bC (λq:Bool×List Int×Nat=>[(1,if q.1 then .int D.K.length else .aM),(2,if q.1 then .int D.K.length else .aM),(3,if q.1 then cK D.K else .aM),(5,if q.1 then .int (ix D.plc D.n.start)else .aM),(6,.aE (q.1 && !decide (D.fs D.K.length=[])) (q.2.1.map .int)),(8,.int q.2.2)]) (λ_=>ay [Zb (D.fs D.K.length)] 0 ⟨none,(D.fs D.K.length).map .int,.dead⟩) (λq=>E0 D D.iO q.2.1 q.2.2) (λq=>D.K.length+1-q.2.2) (true,D.fs D.K.length,D.cn D.K.length) (by simp[bT]) h0 ?_
  rintro⟨b,cls,k⟩ hC;dsimp only at hC ⊢;have TF:=alR D h cls hC.len;obtain⟨alY, aqw⟩:=hC.stop h;have hN:=hC.next h
  have vz:=hN.can.len;rw[hN.len]at vz;generalize idxs (aH [] (D.jc cls)) (D.jc cls)=alZ at *;generalize (aH [] (D.jc cls)).length=k2 at *
  by_cases hk:k2=k
  ·have No :=bM (show(k2:Int)=(k:Int)by omega)
   simp[-al,TF,No];exact⟨cls,k2,⟨rfl,rfl⟩,by rw[hk];exact alY hk⟩
  ·have No :=gg (show ¬(k2:Int)=(k:Int)by omega)
   simp[-al,TF,No];exact ba (false,alZ,k2) (by simp) rfl hN (by dsimp only;omega)
theorem al0 (D:Vd) (h:jO D) (hD:tz D) (oD:D.n.start<(D.plc.length:Int)) (r7:0<=D.iO/\D.iO<(D.n.bj.length:Int)) :
  ∃q:List Int×Nat,PC D5 [D.vcs.av]=some (.bQ [iL q.1,.int q.2])/\WD D D.iO q.1 q.2:=E6 (g:=λq:List Int×Nat=>.bQ [iL q.1,.int q.2]) (alV D h hD oD r7)
end Ab
