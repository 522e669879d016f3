/- Classes of vectors: the program. Classes of vectors: the program finds them. Condition: none. -/
import Derived.Test.YtdenhmniigikcaaGreatN44N
set_option linter.all false
set_option maxRecDepth 100000
set_option maxHeartbeats 4000000
namespace Ab
theorem amW{K:List (List Int)}{a b:List Int}(ha:a∈K) (hb:b∈K) (h:K.idxOf a=K.idxOf b):a=b:=by
 have h1:=List.idxOf_lt_length_of_mem ha;have h2:=List.idxOf_lt_length_of_mem hb;have e1:=List.getElem_idxOf h1;have e2:=List.getElem_idxOf h2;rw[<-e1,<-e2]
 congr 1
theorem Ub{K vs:List (List Int)}{x:Nat}(hx:x<vs.length):ix (idxs K vs) (x:Int)=((K.idxOf (ix vs (x:Int)):Nat):Int):=by
 unfold idxs;rw[jx (by omega) (by omega)]
theorem amX{vs:List (List Int)}{x y:Nat}(hx:x<vs.length) (hy:y<vs.length):ix (idxs (aH [] vs) vs) (x:Int)=ix (idxs (aH [] vs) vs) (y:Int)↔ix vs (x:Int)=ix vs (y:Int):=by
 rw[Ub hx,Ub hy];have h1:ix vs (x:Int)∈aH [] vs:=tC (.inl (aU (by omega) (by omega)))
 have h2:ix vs (y:Int)∈aH [] vs:=tC (.inl (aU (by omega) (by omega)))
 exact⟨λe=>amW h1 h2 (by omega),λe=>by rw[e]⟩
theorem Uc:∀(n:Nat) (vs:List (List Int)),vs.length=n->Can (idxs (aH [] vs) vs) (aH [] vs).length
 |0,vs,h=>by
  have:vs=[]:=dW h;subst this;exact Can.nil
 |n+1,vs,h=>by
  have b8:vs ≠ []:=by intro e;subst e;simp at h
  obtain⟨d,v,rfl⟩:∃d v,vs=d ++ [v]:=⟨vs.dropLast,vs.getLast b8,(List.dropLast_concat_getLast b8).symm⟩;have ih:=Uc n d (by simpa using h)
  rw[Fc,zV]
  by_cases hm:v∈aH [] d
  ·rw[show iB (aH [] d) v=aH [] d from ae hm]
   exact ih.old (by omega) (by have:=List.idxOf_lt_length_of_mem hm;omega)
  ·rw[show iB (aH [] d) v=aH [] d ++ [v]from ab hm,List.idxOf_eq_length hm,bz]
   exact ih.new
theorem Can.put{c:List Int}{k v:Nat}(h:Can c k) (hv:v<=k):Can (c ++ [(v:Int)]) (max k (v+1)):=by
 by_cases e:v<k
 ·rw[show max k (v+1)=k by omega]
  exact h.old (by omega) (by omega)
 ·have:v=k:=by omega
  subst this;rw[show max v (v+1)=v+1 by omega]
  exact h.new
structure Fv (D:Vd) (st:Int) (cls:List Int) (k:Nat):Prop where
 can:Can cls k
 len:cls.length=D.K.length
 sep:∀x y:Nat,x<D.K.length->y<D.K.length->ix cls (x:Int) ≠ ix cls (y:Int)->xa D st x y
 ac:∀x y:Nat,x<D.K.length->y<D.K.length->ix cls (x:Int)=ix cls (y:Int)->D.ac st x=D.ac st y
theorem Ud{D:Vd}{cls:List Int}{x:Nat}(hx:x<D.K.length):ix (D.jg cls) (x:Int)=D.Bg cls x:=by
 unfold Vd.jg;rw[jx (by omega) (by simp;omega),aT (show x<(List.range D.K.length).length by simp;omega)]
 simp
theorem Ue{D:Vd}(h:jQ D){cls:List Int}{k:Nat}(hc:Can cls k) (hl:cls.length=D.K.length){x:Nat}(hx:x<D.K.length):∀v∈D.jR cls x D.n.calls.toNat,0<=v/\v<=65535:=by
 have hk:=hc.len;have hf:=h.f.k;have key:∀l:List Int,(∀y∈l,0<=y/\y<(D.K.length:Int))->∀v∈l.map (ix cls),0<=v/\v<=65535:=λl cw v hv=>by
  obtain⟨y,hy,rfl⟩:=cU.1 hv;have h1:=cw y hy;have:=hc.fx _ (aU (l:=cls) h1.1 (by omega))
  omega
 intro v hv;simp only[Vd.jR,Vd.mP,Vd.w9,lf,cD,eH,rB,cA]at hv;rcases hv with rfl|hv|⟨c,ga, z,hz,hv|hv⟩
 ·have:=hc.fx _ (aU (l:=cls) (n:=(x:Int)) (by omega) (by omega));omega
 ·exact key _ (h.inl x hx).2 v hv
 ·exact key _ (h.rQ x c z hx ga hz).2 v hv
 ·exact key _ (h.rQ z c x hz ga hx).2 v hv
theorem Fw{D:Vd}(h:jQ D){cls:List Int}{k:Nat}(hc:Can cls k) (hl:cls.length=D.K.length){x y:Nat}(hx:x<D.K.length) (hy:y<D.K.length):ix (idxs (aH [] (D.jg cls)) (D.jg cls)) (x:Int)=ix (idxs (aH [] (D.jg cls)) (D.jg cls)) (y:Int)↔Fu D cls x y:=by
 have gB:(D.jg cls).length=D.K.length:=by simp[Vd.jg]
 rw[amX (by omega) (by omega),Ud hx,Ud hy,<-amV h hx hy]
 exact⟨λe=>Ua (Ue h hc hl hx) (Ue h hc hl hy) e,λe=>by unfold Vd.Bg;rw[e]⟩
theorem xa.of{D:Vd}(h:jQ D){st:Int}{cls:List Int}{k:Nat}(hc:Fv D st cls k){x y:Nat}(hx:x<D.K.length) (hy:y<D.K.length) (hn:¬Fu D cls x y):xa D st x y:=by
 have key:∀a b:Int,0<=a->a<(D.K.length:Int)->0<=b->b<(D.K.length:Int)->ix cls a ≠ ix cls b->xa D st a b:=λa b a0 a1 b0 b1 wL=>by
  have:=hc.sep a.toNat b.toNat (by omega) (by omega)
  rw[show((a.toNat:Nat):Int)=a by omega,show((b.toNat:Nat):Int)=b by omega]at this
  exact this wL
 have Xh:∀x:Nat,x<D.K.length->∀i,0<=i->i<D.n.aj->0<=D.im x i/\D.im x i<(D.K.length:Int):=λx hx i i0 i1=>by
  have:=h.inl x hx;exact this.2 _ (aU i0 (by omega))
 have qS:∀x z:Nat,x<D.K.length->z<D.K.length->∀c r,0<=c->c<D.n.calls->0<=r->r<D.n.aq->0<=D.bk x c z r/\D.bk x c z r<(D.K.length:Int):=λx z hx hz c r c0 c1 r0 r1=>by
  have:=h.rQ x c.toNat z hx (by omega) hz
  unfold Vd.bX Vd.row at this;rw[show((c.toNat:Nat):Int)=c by omega]at this
  exact this.2 _ (aU r0 (by omega))
 refine eU λFx=>hn ⟨eU λe=>Fx (hc.sep x y hx hy e),λi i0 i1=>eU λe=>Fx ?_,λc z r c0 c1 z0 z1 r0 r1=>eU λe=>Fx ?_,λc z r c0 c1 z0 z1 r0 r1=>eU λe=>Fx ?_⟩
 ·have a:=Xh x hx i i0 i1
  have b:=Xh y hy i i0 i1;exact .aR _ _ i i0 i1 (key _ _ a.1 a.2 b.1 b.2 e)
 ·have a:=qS x z.toNat hx (by omega) c r c0 c1 r0 r1
  have b:=qS y z.toNat hy (by omega) c r c0 c1 r0 r1
  rw[show((z.toNat:Nat):Int)=z by omega]at a b
  exact .bl _ _ c z r c0 c1 z0 z1 r0 r1 (key _ _ a.1 a.2 b.1 b.2 e)
 ·have a:=qS z.toNat x (by omega) hx c r c0 c1 r0 r1
  have b:=qS z.toNat y (by omega) hy c r c0 c1 r0 r1
  rw[show((z.toNat:Nat):Int)=z by omega]at a b
  exact .br _ _ c z r c0 c1 z0 z1 r0 r1 (key _ _ a.1 a.2 b.1 b.2 e)
theorem Fv.next{D:Vd}(h:jQ D){st:Int}{cls:List Int}{k:Nat}(hc:Fv D st cls k):Fv D st (idxs (aH [] (D.jg cls)) (D.jg cls)) (aH [] (D.jg cls)).length:=by
 have gB:(D.jg cls).length=D.K.length:=by simp[Vd.jg]
 refine⟨Uc _ _ rfl,by simp[idxs,gB],λx y hx hy e=>?_,λx y hx hy e=>?_⟩
 ·exact xa.of h hc hx hy λg=>e ((Fw h hc.can hc.len hx hy).2 g)
 ·exact hc.ac x y hx hy ((Fw h hc.can hc.len hx hy).1 e).e
structure Xi (D:Vd) (st:Int) (cls:List Int) (k:Nat):Prop where
 c:Fv D st cls k
 Ka:∀x y:Nat,x<D.K.length->y<D.K.length->ix cls (x:Int)=ix cls (y:Int)->Fu D cls x y
theorem Fv.stop{D:Vd}(h:jQ D){st:Int}{cls:List Int}{k:Nat}(hc:Fv D st cls k):((aH [] (D.jg cls)).length=k->Xi D st cls k)/\k<=(aH [] (D.jg cls)).length:=by
 have hn:=hc.next h
 have hl:=hc.len;have lY:=hn.len;have:=hn.can.ref hc.can (by omega) λi j hi hj e=>((Fw h hc.can hc.len (by omega) (by omega)).1 e).e
 rcases this with⟨e1,e2⟩|aK
 ·exact⟨λ_=>⟨hc,λx y hx hy e=>(Fw h hc.can hc.len hx hy).1 (by rw[e1];exact e)⟩,by omega⟩
 ·exact⟨λe=>by omega,by omega⟩
def Vd.iS (D:Vd):Int:=ix D.plc D.n.start
def Vd.f0 (D:Vd) (x:Nat):Nat:=if D.ac D.iS (x:Int)=D.ac D.iS 0 then 0 else 1
def Vd.cn (D:Vd):Nat->Nat
 |0=>0
 |x+1=>max (D.cn x) (D.f0 x+1)
def Vd.fs (D:Vd) (x:Nat):List Int:=(List.range x).map λy=>((D.f0 y:Nat):Int)
theorem Uf{D:Vd}{x:Nat}:D.fs (x+1)=D.fs x ++ [((D.f0 x:Nat):Int)]:=by simp[Vd.fs,mI]
theorem Fy{D:Vd}{x:Nat}:(D.fs x).length=x:=by simp[Vd.fs]
theorem GX{D:Vd}{x:Nat}:D.f0 x<=1:=by unfold Vd.f0;split<;>omega
theorem Ug{D:Vd}:∀x:Nat,Can (D.fs x) (D.cn x)/\(0<x->1<=D.cn x)/\D.cn x<=2
 |0=>⟨Can.nil,by omega,by simp[Vd.cn]⟩
 |x+1=>by
  obtain⟨h1,h2,h3⟩:=Ug (D:=D) x;have hf:=GX (D:=D) (x:=x);have hv:D.f0 x<=D.cn x:=by
   by_cases e:x=0
   ·subst e;simp[Vd.f0]
   ·have:=h2 (by omega);omega
  rw[Uf];refine⟨h1.put hv,λ_=>?_,?_⟩
  ·show 1<=max (D.cn x) (D.f0 x+1);omega
  ·show max (D.cn x) (D.f0 x+1)<=2;omega
theorem Fz{f:Nat}{args:List AV}{α:Type}{g:α->AV}{R:α->Prop}(h:LX L f args [] (λr τ=>∃a,cx τ false r=some (g a)/\R a)):∃a,PC f args=some (g a)/\R a:=by
 obtain⟨r,τ,h1,a,h2,h3⟩:=dS h;refine⟨a,?_,h3⟩;unfold PC xM;rw[h1];exact h2
theorem amY (D:Vd) (h:jQ D) (hD:tD D) (oI:D.n.start<(D.plc.length:Int)) (sb:0<=D.iS/\D.iS<(D.n.bw.length:Int)) :
  LX L Ew [D.vcs.av] [] (λr τ=>∃q:List Int×Nat,cx τ false r=some (.bS [iL q.1,.int q.2])/\Xi D D.iS q.1 q.2):=by
 refine aiu rfl ?_;have Be:=h.f.k;have bV:=hD.ok.start;have j5:=h.k;have hK:∀x:Nat,x<D.K.length->D.iS<((ix D.K (x:Int)).length:Int)/\0<=ix (ix D.K (x:Int)) D.iS/\ix (ix D.K (x:Int)) D.iS<(D.n.accept.length:Int):=λx hx=>by
  have:=hD.kx hx;have hl:D.iS<((ix D.K (x:Int)).length:Int):=by rw[this.2];exact sb.2
  exact⟨hl,this.1 _ (aU sb.1 hl)⟩
 unfold Vd.iS at sb hK;have Xb:=hK 0 j5;have hkz:=bH (show 0<(D.K.length:Int)by omega)
 rw[show((0:Nat):Int)=0 from rfl]at Xb;simp[-ao,-List.map_replicate,bV.1,oI];refine⟨by omega,?_⟩
 refine bu (λx:Nat=>[(1,.int x),(8,.int (D.cn x))]) (λx=>[Zb (D.fs x++List.replicate (D.K.length-x) 0)]) (λx=>x<=D.K.length) (λx=>D.K.length-x) 0 (by simp[bY,Vd.cn,Vd.fs]) (by omega) ?_
 intro x x0;have hcn:=Ug (D:=D) x
 by_cases hx:x<D.K.length
 ·have hKx:=hK x hx
  have LO:(ix D.n.accept (ix (ix D.K (x:Int)) (ix D.plc D.n.start))=ix D.n.accept (ix (ix D.K 0) (ix D.plc D.n.start)))=(D.f0 x=0):=by
   apply propext;unfold Vd.f0 Vd.ac Vd.iS
   by_cases e:ix D.n.accept (ix (ix D.K (x:Int)) (ix D.plc D.n.start))=ix D.n.accept (ix (ix D.K 0) (ix D.plc D.n.start))
   ·simp[e]
   ·simp[e]
  have hs:=Uf (D:=D) (x:=x);have hl:=Fy (D:=D) (x:=x);have jO:D.cn (x+1)=max (D.cn x) (D.f0 x+1):=rfl;have hr:D.K.length-x=(D.K.length-(x+1))+1:=by omega
  have hz:ix (D.fs x++List.replicate (D.K.length-(x+1)+1) 0) (x:Int)=0:=by
   rw[aT (by simp;omega),List.getElem_append_right (by omega)];simp
  have FA:(D.fs x++List.replicate (D.K.length-(x+1)+1) 0).set x 1=D.fs x ++ [1]++List.replicate (D.K.length-(x+1)) 0:=J9 hl;have yE:ix (D.fs x ++ [1]++List.replicate (D.K.length-(x+1)) 0) (x:Int)=1:=by
   rw[aT (by simp;omega),List.getElem_append_left (by simp;omega),List.getElem_append_right (by omega)];simp[hl]
  have amZ:List.replicate (D.K.length-(x+1)+1) (0:Int)=[0]++List.replicate (D.K.length-(x+1)) 0:=by rw[ug];rfl
  have WQ:=GX (D:=D) (x:=x);generalize D.fs x=A at *;generalize hcx:D.cn x=k at *;rw[hr]
  by_cases he:D.f0 x=0
  ·rw[he]at hs jO
   simp[-ao,-List.map_append,-List.map_replicate,hx,hKx,Xb,bV.1,oI,sb.1,hkz,LO,he,hz,hl];have e2:A++List.replicate (D.K.length-(x+1)+1) (0:Int)=A ++ [((0:Nat):Int)]++List.replicate (D.K.length-(x+1)) 0:=by rw[amZ];simp
   exact⟨by omega,by omega,by omega,aX (x+1) (by rw[jO];simp;omega) (by rw[hs,e2]) (by omega) (by omega)⟩
  ·have pP:D.f0 x=1:=by omega
   rw[pP]at hs jO;have Kb:((A++List.replicate (D.K.length-(x+1)+1) 0).map AV.int).set x (AV.int 1)=(A ++ [1]++List.replicate (D.K.length-(x+1)) 0).map AV.int:=by rw[<-List.map_set,FA]
   have am0:A++(List.replicate (D.K.length-(x+1)+1) (0:Int)).set 0 1=A ++ [1]++List.replicate (D.K.length-(x+1)) 0:=by rw[ug];simp
   simp[-ao,-List.map_append,-List.map_replicate,-List.append_assoc,hx,hKx,Xb,bV.1,oI,sb.1,hkz,LO,he,hz,hl,am0,yE];exact⟨by omega,by omega,by omega,by omega,by omega,aX (x+1) (by rw[jO];simp;omega) (by rw[hs];simp) (by omega) (by omega)⟩
 ·have ex:x=D.K.length:=by omega
  subst ex;rw[Nat.sub_self,List.replicate_zero,List.append_nil];simp[-ao];refine zW (b:=0) (l:=D.fs D.K.length) ?_ (by simp) Fy.symm ?_
  ·unfold fy
   rw[ab λe=>by have:=Fy (D:=D) (x:=D.K.length);rw[e]at this;simp at this;omega]
  have h0:Fv D D.iS (D.fs D.K.length) (D.cn D.K.length):=by
   have ql:∀x:Nat,x<D.K.length->ix (D.fs D.K.length) (x:Int)=((D.f0 x:Nat):Int):=λx hx=>by
    unfold Vd.fs;rw[jx (by omega) (by simp;omega),aT (show x<(List.range D.K.length).length by simp;omega)]
    simp
   refine⟨hcn.1,Fy,λx y hx hy e=>?_,λx y hx hy e=>?_⟩
   ·rw[ql x hx,ql y hy]at e
    refine .acc _ _ λe2=>e ?_;unfold Vd.f0;rw[e2]
   ·rw[ql x hx,ql y hy]at e
    unfold Vd.f0 at e
    by_cases e1:D.ac D.iS (x:Int)=D.ac D.iS 0<;>by_cases e2:D.ac D.iS (y:Int)=D.ac D.iS 0
    ·rw[e1,e2]
    ·simp[e1,e2]at e
    ·simp[e1,e2]at e
    ·cases h1:D.ac D.iS (x:Int)<;>cases h2:D.ac D.iS (y:Int)<;>cases h3:D.ac D.iS 0<;>simp_all
  simp[-ao];refine bu (λq:Bool×List Int×Nat=>[(1,if q.1 then .int D.K.length else .aM),(2,if q.1 then .int D.K.length else .aM),(3,if q.1 then cO D.K else .aM),(5,if q.1 then .int (ix D.plc D.n.start)else .aM),(6,.aE (q.1 && !decide (D.fs D.K.length=[])) (q.2.1.map .int)),(8,.int q.2.2)]) (λ_=>az [Zb (D.fs D.K.length)] 0 ⟨none,(D.fs D.K.length).map .int,.dead⟩) (λq=>Fv D D.iS q.2.1 q.2.2) (λq=>D.K.length+1-q.2.2) (true,D.fs D.K.length,D.cn D.K.length) (by simp[bY]) h0 ?_
  rintro⟨b,cls,k⟩ hC;dsimp only at hC ⊢;have Uh:=amU D h cls hC.len;obtain⟨am1, arw⟩:=hC.stop h;have hN:=hC.next h
  have vD:=hN.can.len;rw[hN.len]at vD;generalize idxs (aH [] (D.jg cls)) (D.jg cls)=am2 at *;generalize (aH [] (D.jg cls)).length=k2 at *
  by_cases hk:k2=k
  ·have N2 :=bH (show(k2:Int)=(k:Int)by omega)
   simp[-ao,Uh,N2];exact⟨cls,k2,⟨rfl,rfl⟩,by rw[hk];exact am1 hk⟩
  ·have N2 :=gl (show ¬(k2:Int)=(k:Int)by omega)
   simp[-ao,Uh,N2];exact aX (false,am2,k2) (by simp) rfl hN (by dsimp only;omega)
theorem am3 (D:Vd) (h:jQ D) (hD:tD D) (oI:D.n.start<(D.plc.length:Int)) (sb:0<=D.iS/\D.iS<(D.n.bw.length:Int)) :
  ∃q:List Int×Nat,PC Ew [D.vcs.av]=some (.bS [iL q.1,.int q.2])/\Xi D D.iS q.1 q.2:=Fz (g:=λq:List Int×Nat=>.bS [iL q.1,.int q.2]) (amY D h hD oI sb)
end Ab
