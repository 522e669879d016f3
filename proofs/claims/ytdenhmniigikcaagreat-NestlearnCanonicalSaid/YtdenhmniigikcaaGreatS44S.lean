/- Single: vectors, classes and the language. Condition: none. -/
import Derived.Test.YtdenhmniigikcaaGreatS44Q
set_option linter.all false
set_option maxRecDepth 100000
set_option maxHeartbeats 4000000
namespace Ab
abbrev al.dS (n:al):kj:=⟨n.calls,n.af,n.aj⟩
def al.bB (n:al) (w:List Int):Prop:=∃t,Wd n.aQ n.start t w/\ix n.accept t=true
def al.Ok.dS{n:al}(h:n.Ok):n.dS.Ok:=⟨⟨h.calls.1,h.af.1,h.aj.1⟩,h.syms.2⟩
def vP (n:al) (k:List Int):Prop:=k.length=n.aZ.length/\∃w,Ww n.dS w/\∀j:Nat,j<n.aZ.length->Wd n.aQ (ix n.aZ (j:Int)) (ix k (j:Int)) w
variable{plc:List Int}
theorem alg{n:al}(g:n.Ok){m:List Int}(o:zm n plc){t c r:Int}{u:List Int}(h:0<=t) (p:t<(n.accept.length:Int)) (i:0<=c) (q:c<n.calls) (s:0<=r) (w:r<n.aj) (x:∀j:Nat,j<n.aZ.length->Wd n.aQ (ix n.aZ (j:Int)) (ix m (j:Int)) u):Wd n.aQ t (n.o9 plc m c r t) (c::(u ++ [n.calls+n.af+r])):=by
 have b:ix (ix n.call t) c∈n.aZ:=by
  have y:=(g.row t h p).1;have z:=g.lens;exact rS.2 (.inr ⟨_,aO h (by omega),aO i (by omega)⟩)
 obtain⟨j,a,d⟩:=fu.1 b;have e:=o.By j a;rw[aG a,d]at e;have l:=x j a;rw[aG a,d]at l;have:=Wd.call (M:=n.aQ) t c (ix m (j:Int)) r _ u [] i q s w l (.nil _);rw[show n.o9 plc m c r t=n.aQ.pop (ix m (j:Int)) (n.aQ.call t c).2 r from by
  unfold al.o9;rw[e];rfl]
 exact this
theorem alh{n:al}(a:n.Ok){k:List Int}(h:vP n k):n.rT k:=λs b=>by
 obtain⟨g,w,_,d⟩:=h;obtain⟨j,e,rfl⟩:=fu.1 b;have:=d j (by omega)
 rw[aG e,aG (show j<n.aZ.length by omega)]at this
 exact this.range (me a) (tL a _ (List.getElem_mem _))
theorem ali{n:al}(p:n.Ok)(A:zm n plc):CW (vP n) n plc:=by
 refine⟨λk d i q i1=>?_,λk m d B c r s x y z=>?_⟩
 .obtain⟨e,w,g,h⟩:=d
  refine⟨by simpa using e,_,.aH w i q i1 g,λj a=>?_⟩
  rw[iT (by omega) (by omega)]
  exact(h j a).app (.aH _ i _ [] q i1 (.nil _))
 .have C:=alh p d
  obtain⟨e,w,g,h⟩:=d;obtain⟨D,u,E,o⟩:=B;refine⟨by simpa using e,_,.ak w u c r s x y z g E,λj a=>?_⟩
  rw[iT (by omega) (by omega)]
  have b:=C _ (aO (l:=k) (n:=(j:Int)) (by omega) (by omega))
  exact(h j a).app (alg p A b.1 b.2 s x y z o)
theorem alj{n:al}:vP n n.aZ:=⟨rfl,[],.nil,λj _=>.nil _⟩
section
variable{n:al}{D:Vd}{cls:List Int}{k:Nat}
variable{x:Int}{w:List Int}
theorem Dv.ww (hd:D.n=n)(h:Dv D x w):Ww n.dS w:=by
 subst hd
 induction h with
 |nil=>exact .nil
 |aH x i w i0 i1 _ ih=>exact .aH w i i0 i1 ih
 |ak x c y r w u c0 c1 r0 r1 _ _ U V=>exact .ak w u c r c0 c1 r0 r1 U V
theorem sc (hd:D.n=n)(h:Ww n.dS w):∃x,Dv D x w:=by
 subst hd
 induction h with
 |nil=>exact⟨0,.nil⟩
 |aH w i e i1 _ g=>obtain⟨x,a⟩:=g;exact⟨_,.aH x i w e i1 a⟩
 |ak w u c r j l m o _ _ b d=>
  obtain⟨x,a⟩:=b;obtain⟨y,p⟩:=d;exact⟨_,.ak x c y r w u j l m o a p⟩
theorem wz.word (h:wz (vP n) n D cls k){x:Nat}(hx:x<D.K.length):∃w,Dv D x w:=by
 have U:=h.d.n;have kV : n=D.n:=U.symm;obtain⟨hl,w,hw,hj⟩:=h.d.v.kx hx;obtain⟨y,V⟩:=sc U hw;have hD:=oB h.d.v h.f;have ry:=V.fb hD;have ky:=h.d.v.ok.kx (x:=y.toNat) (by omega)
 refine⟨w,?_⟩;have e:ix D.K (x:Int)=ix D.K (y.toNat:Int):=by
  refine tz (by rw[ky.2,hl,U]) λj j0 j1=>?_
  have h1:=hj j.toNat (by omega)
  have h2:=V.wd h.d.v h.f h.d.p j.toNat (by rw[U];omega)
  rw[show((j.toNat:Nat):Int)=j by omega]at h1 h2
  rw[show((y.toNat:Nat):Int)=y by omega]
  rw[U]at h2;exact Wd.pO (M:=n.aQ) (U▸h.d.v.ok.ok.m0) h1 h2
 rw[aG hx,aG (show y.toNat<D.K.length by omega)]at e
 have:=(List.getElem_inj h.d.v.nd).1 e;rw[show(x:Int)=y by omega]
 exact V
theorem wz.bB (h:wz (vP n) n D cls k)(hx:Dv D x w):n.bB w↔D.ac D.ij x=true:=by
 have hn:=h.d.n;have hs:D.n.start∈D.n.aZ:=rS.2 (.inl rfl);obtain⟨m,U,Db⟩:=fu.1 hs;have V:=h.d.p.By m U;have hw:=hx.wd h.d.v h.f h.d.p m U;rw[aG U,Db]at V hw;have e:D.ac D.ij x=ix D.n.accept (ix (ix D.K x) (m:Int)):=by unfold Vd.ac Vd.ij;rw[V]
 rw[e];have db:=h.d.v.ok.ok;subst hn;constructor
 .rintro⟨t,ht,ha⟩
  rw[hw.pO db.m0 ht];exact ha
 .exact λha=>⟨_,hw,ha⟩
theorem wz.alk (h:wz (vP n) n D cls k){y:Int}{u v:List Int}(hx:Dv D x u) (hy:Dv D y v):jt n.dS n.bB u v↔ix cls x=ix cls y:=by
 have hD:=oB h.d.v h.f;have hn:=h.d.n;have key:∀{x y:Int},vE D D.ij x y->∀u v,Dv D x u->Dv D y v->Sep n.dS n.bB u v:=by
  intro x y hs
  induction hs with
  |acc x y ha=>
   intro u v U V;refine .acc _ _ λe=>ha ?_;rw[h.bB U,h.bB V]at e;cases h1:D.ac D.ij x<;>cases h2:D.ac D.ij y<;>simp_all
  |aH x y i i0 i1 _ ih=>
   intro u v U V;have:=ih _ _ (.aH x i u i0 i1 U) (.aH y i v i0 i1 V);rw[hn]at this i1;exact .aH _ _ i i0 i1 this
  |bl x y c z r c0 c1 z0 z1 r0 r1 _ ih=>
   intro u v U V;obtain⟨w,hw⟩:=h.word (x:=z.toNat) (by omega)
   rw[show((z.toNat:Nat):Int)=z by omega]at hw
   have:=ih _ _ (.ak x c z r u w c0 c1 r0 r1 U hw) (.ak y c z r v w c0 c1 r0 r1 V hw);rw[hn]at this c1 r1;exact .bl _ _ w c r c0 c1 r0 r1 (hw.ww hn) this
  |br x y c z r c0 c1 z0 z1 r0 r1 _ ih=>
   intro u v U V;obtain⟨w,hw⟩:=h.word (x:=z.toNat) (by omega)
   rw[show((z.toNat:Nat):Int)=z by omega]at hw
   have:=ih _ _ (.ak z c x r w u c0 c1 r0 r1 hw U) (.ak z c y r w v c0 c1 r0 r1 hw V);rw[hn]at this c1 r1;exact .br _ _ w c r c0 c1 r0 r1 (hw.ww hn) this
 have back:∀{u v:List Int},Sep n.dS n.bB u v->∀x y,Dv D x u->Dv D y v->ix cls x ≠ ix cls y:=by
  intro u v hs
  induction hs with
  |acc u v ha=>
   intro x y U V e;have rx:=U.fb hD;have ry:=V.fb hD;have:=h.c.c.ac x.toNat y.toNat (by omega) (by omega) (by rw[show((x.toNat:Nat):Int)=x by omega,show((y.toNat:Nat):Int)=y by omega];exact e)
   rw[show((x.toNat:Nat):Int)=x by omega,show((y.toNat:Nat):Int)=y by omega]at this
   exact ha (by rw[h.bB U,h.bB V,this])
  |aH u v i i0 i1 _ ih=>
   intro x y U V e;have rx:=U.fb hD;have ry:=V.fb hD;have hg:=h.c.Ib x.toNat y.toNat (by omega) (by omega) (by rw[show((x.toNat:Nat):Int)=x by omega,show((y.toNat:Nat):Int)=y by omega];exact e)
   rw[show((x.toNat:Nat):Int)=x by omega,show((y.toNat:Nat):Int)=y by omega]at hg
   have i1' : i<D.n.af:=by rw[hn];exact i1
   have h1:=Dv.aH x i u i0 i1' U;have h2:=Dv.aH y i v i0 i1' V;rw[hn]at h1 h2;exact ih _ _ h1 h2 (hg.i i i0 i1')
  |bl u v w c r c0 c1 r0 r1 hw _ ih=>
   intro x y U V e;have rx:=U.fb hD;have ry:=V.fb hD;have hg:=h.c.Ib x.toNat y.toNat (by omega) (by omega) (by rw[show((x.toNat:Nat):Int)=x by omega,show((y.toNat:Nat):Int)=y by omega];exact e)
   rw[show((x.toNat:Nat):Int)=x by omega,show((y.toNat:Nat):Int)=y by omega]at hg
   obtain⟨z,hz⟩:=sc hn hw;have rz:=hz.fb hD;have zr : c<D.n.calls:=by rw[hn];exact c1
   have yR : r<D.n.aj:=by rw[hn];exact r1
   have h1:=Dv.ak x c z r u w c0 zr r0 yR U hz;have h2:=Dv.ak y c z r v w c0 zr r0 yR V hz;rw[hn]at h1 h2;exact ih _ _ h1 h2 (hg.l c z r c0 zr rz.1 rz.2 r0 yR)
  |br u v w c r c0 c1 r0 r1 hw _ ih=>
   intro x y U V e;have rx:=U.fb hD;have ry:=V.fb hD;have hg:=h.c.Ib x.toNat y.toNat (by omega) (by omega) (by rw[show((x.toNat:Nat):Int)=x by omega,show((y.toNat:Nat):Int)=y by omega];exact e)
   rw[show((x.toNat:Nat):Int)=x by omega,show((y.toNat:Nat):Int)=y by omega]at hg
   obtain⟨z,hz⟩:=sc hn hw;have rz:=hz.fb hD;have zr : c<D.n.calls:=by rw[hn];exact c1
   have yR : r<D.n.aj:=by rw[hn];exact r1
   have h1:=Dv.ak z c x r w u c0 zr r0 yR hz U;have h2:=Dv.ak z c y r w v c0 zr r0 yR hz V;rw[hn]at h1 h2;exact ih _ _ h1 h2 (hg.r c z r c0 zr rz.1 rz.2 r0 yR)
 constructor
 .intro ha
  refine cZ λe=>ha ?_;have rx:=hx.fb hD;have ry:=hy.fb hD;have:=h.c.c.sep x.toNat y.toNat (by omega) (by omega)
  rw[show((x.toNat:Nat):Int)=x by omega,show((y.toNat:Nat):Int)=y by omega]at this
  exact key (this e) _ _ hx hy
 .exact λe hs=>back hs _ _ hx hy e
structure Ke (D:Vd) (cls:List Int) (k:Nat) (l:List gN):Prop where
 len:l.length=k
 cl:∀i:Nat,i<k->(ix l (i:Int)).1=i
 w:∀i:Nat,i<k->(∃x,Dv D x (ix l (i:Int)).2.2/\ix cls x=i)/\∀y v,Dv D y v->ix cls y=i->aP (ix l (i:Int)).2.2 v<=0
theorem wz.SB (h:wz (vP n) n D cls k):∃l,Ke D cls k l:=by
 have hD:=oB h.d.v h.f;have V:=h.d.v.ok.ok.dS;have:∀i:Nat,i<k->∃w,(∃x,Dv D x w/\ix cls x=i)/\∀v,(∃y,Dv D y v/\ix cls y=i)->aP w v<=0:=λi hi=>by
  have U:=h.c.c.can.occ (i:Int) (by omega) (by omega)
  obtain⟨x,hx,e⟩:=fu.1 U;obtain⟨w,hw⟩:=h.word (x:=x) (by rw[<-h.c.c.len];exact hx)
  exact ak9 (P:=λw=>∃x,Dv D x w/\ix cls x=i) (λw ⟨x,hx,_⟩=>(hx.ww rfl).sy V) ⟨x,hw,by rw[aG hx];exact e⟩
 refine⟨(List.range k).map λ(i:Nat)=>((i:Int),0,if hi:i<k then Classical.choose (this i hi)else[]),by simp,λi hi=>?_,λi hi=>?_⟩
 .rw[gG (by omega) (by omega)];simp
 .rw[gG (by omega) (by omega)]
  dsimp only;rw[Int.toNat_natCast,dif_pos hi];have:=Classical.choose_spec (this i hi);exact⟨this.1,λy v hy e=>this.2 v ⟨y,hy,e⟩⟩
theorem Ke.Cb (h:wz (vP n) n D cls k){l:List gN}(hl:Ke D cls k l):gP n.dS n.bB ((dc l).map λc=>c.2.2):=by
 have hn:=h.d.n;have hD:=oB h.d.v h.f;have hp:=pn l;have pC:(l.map λc=>c.2.2).Nodup:=by
  rw[List.Nodup,qj];intro i j hi hj ur e;simp only[cY]at hi hj;simp only[k9]at e;rw[<-aG hi,<-aG hj]at e;have hlen:=hl.len;obtain⟨⟨x,hx,ex⟩,_⟩:=hl.w i (by omega)
  obtain⟨⟨y,V,ey⟩,_⟩:=hl.w j (by omega)
  rw[e]at hx;rw[Dv.pO h.d.v h.f h.d.p hx V,ey]at ex;omega
 have kU:∀w,w∈((dc l).map λc=>c.2.2)->∃i:Nat,i<k/\(ix l (i:Int)).2.2=w:=λw hw=>by
  obtain⟨c,hc,rfl⟩:=cB.1 hw;obtain⟨i,hi,e⟩:=fu.1 (hp.mem_iff.1 hc);exact⟨i,by rw[<-hl.len];exact hi,by rw[aG hi,e]⟩
 refine⟨?_,λw hw=>?_,λw hw v hv ha=>?_,λv hv=>?_⟩
 .rw[List.pairwise_map]
  exact IT pC
 .obtain⟨i,hi,rfl⟩:=kU w hw
  obtain⟨⟨x,hx,_⟩,_⟩:=hl.w i hi;exact hx.ww hn
 .obtain⟨i,hi,rfl⟩:=kU w hw
  obtain⟨⟨x,hx,ex⟩,U⟩:=hl.w i hi;obtain⟨y,V⟩:=sc hn hv;exact U y v V (by rw[<-(h.alk hx V).1 ha,ex])
 .obtain⟨y,V⟩:=sc hn hv
  have ry:=V.fb hD;have hc:=h.c.c.can.fb _ (aO (l:=cls) ry.1 (by rw[h.c.c.len];exact ry.2))
  obtain⟨⟨x,hx,ex⟩,U⟩:=hl.w (ix cls y).toNat (by omega)
  refine⟨_,cB.2 ⟨ix l ((ix cls y).toNat:Int),hp.mem_iff.2 (aO (by omega) (by have:=hl.len;omega)),rfl⟩,?_⟩
  exact(h.alk V hx).2 (by rw[ex];omega)
end
open Classical in
noncomputable def zt (A:kj) (L:List Int->Prop) (ws:List (List Int)):al×Int:=
 if 128<ws.length\/128<ws.length*A.c.toNat then(zN,11)
 else if ∃w∈ws,1024<w.length then(zN,3)
 else(cA A L ws,0)
variable{l:List gN}
theorem Ke.I6{D:Vd}{cls:List Int}{k:Nat}(h:Ke D cls k l):((dc l).map λc=>c.2.2).length=k:=by
 rw[cY,(pn l).length_eq,h.len]
variable{S:Fd}
theorem wA.SB{n:al}{D:Vd}{cls:List Int}{k:Nat}(h:wA (vP n) n D cls k S l) (hn:l.any neg=false):Ke D cls k l:=by
 have hv:∀i:Nat,i<l.length->0<=(ix l (i:Int)).2.1:=λi hi=>by
  have:=List.any_eq_false.1 hn _ (aO (l:=l) (n:=(i:Int)) (by omega) (by omega))
  simp[neg]at this;exact this
 have hlen:=h.l.len;have hD:=oB h.c.d.v h.c.f;refine⟨hlen,h.l.cl,λi hi=>?_⟩;obtain⟨a1,a2,a3,a4⟩:=h.wd hi (hv i (by omega))
 refine⟨⟨_,a3.1,a2⟩,λy v V ec=>?_⟩;have ry:=V.fb hD;obtain⟨u,hu,qT⟩:=Rw hD (by have:=h.c.d.v.ok.ok.syms;omega) V
 have U:=hu.2 v V
 by_cases hs:u.length<=1024
 .have hf:ix S.F y=true:=(h.s.fd y ry.1 (by rw[h.s.l];exact ry.2)).2 ⟨u,hu,by omega⟩
  have hw:=h.s.lw y u hu (by omega)
  have:=(h.l.yes i hi (hv i (by omega))).2 y.toNat (by omega) (by rw[show((y.toNat:Nat):Int)=y by omega];exact ec) (by rw[show((y.toNat:Nat):Int)=y by omega];exact hf)
  rw[show((y.toNat:Nat):Int)=y by omega]at this
  unfold Fd.wd at this;rw[hw]at this;exact dE.trans _ _ _ this U
 .refine dE.trans _ _ _ ?_ U
  unfold aP;rw[ab (by omega)];omega
theorem alm{n:al}{D:Vd}{cls:List Int}{k:Nat}{st:List Int}(h:wA (vP n) n D cls k S l) (Q:l.any neg=false) (V:st.length=l.length) (W:∀i:Nat,i<l.length->ix st (uB (dc l) i)=i):r6 D cls (dc l) st=cA n.dS n.bB ((dc l).map λc=>c.2.2):=by
 have I:=h.SB Q;have X:=I.Cb h.c;have J:=pn l;have z:(dc l).length=l.length:=J.length_eq;have hlen:=h.l.len;have Y:=oB h.c.d.v h.c.f;have b:=h.c.d.n;have Z:∀i:Nat,i<l.length->0<=(ix l (i:Int)).2.1:=λi m=>by
  have:=List.any_eq_false.1 Q _ (aO (l:=l) (n:=(i:Int)) (by omega) (by omega))
  simp[neg]at this;exact this
 generalize B:((dc l).map λc=>c.2.2)=ws at *;have o:ws.length=l.length:=by rw[<-B,cY,z]
 have K:∀i:Nat,i<l.length->ix ws (i:Int)=(ix (dc l) (i:Int)).2.2:=λi m=>by rw[<-B];exact iT (by omega) (by omega)
 -- each state
 have u:∀i:Nat,i<l.length->Dv D (vJ (dc l) i) (ix ws (i:Int))/\ix cls (vJ (dc l) i)=uB (dc l) i:=λi m=>by
  have G:=J.mem_iff.1 (aO (l:=dc l) (n:=(i:Int)) (by omega) (by omega))
  obtain⟨j,C,e⟩:=fu.1 G;rw[<-aG C]at e;obtain⟨a1,a2,a3,a4⟩:=h.wd (i:=j) (by omega) (Z j C)
  rw[K i m];unfold vJ uB;rw[<-e,a2,h.l.cl j (by omega)]
  exact⟨a3.1,rfl⟩
 have L:∀q:Int,0<=q->q<(k:Int)->∃p:Nat,p<l.length/\uB (dc l) p=q:=λq q0 q1=>by
  have G:=J.mem_iff.2 (aO (l:=l) (n:=q) q0 (by omega))
  obtain⟨p,M,e⟩:=fu.1 G;refine⟨p,by omega,?_⟩
  unfold uB;rw[aG M,e];have:=h.l.cl q.toNat (by omega)
  rw[show((q.toNat:Nat):Int)=q by omega]at this
  exact this
 have w:∀y v,Dv D y v->UR st cls y=gn n.dS n.bB ws v:=λy v N=>by
  have R:=N.fb Y;have A:=h.c.c.c.can.fb _ (aO (l:=cls) R.1 (by rw[h.c.c.c.len];exact R.2))
  obtain⟨p,E,F⟩:=L _ A.1 A.2;unfold UR;rw[<-F,W p E]
  symm
  refine vO X (N.ww b) (by omega) (by omega) ?_
  obtain⟨b1,b2⟩:=u p E;exact(h.c.alk N b1).2 (by rw[b2,F])
 have x:D.n.ay l.length=n.dS.ay ws.length:=by
  show max 1 (l.length*D.n.calls.toNat)=max 1 (ws.length*n.calls.toNat);rw[o,b]
 have e1:(List.range l.length).map (λi=>D.ac D.ij (vJ (dc l) i))=(List.range ws.length).map λ(i:Nat)=>@decide (n.bB (ix ws (i:Int))) (Classical.propDecidable _):=by
  rw[o];refine fv λi m=>?_;have m:=bT.1 m;have H:=h.c.bB (u i m).1;cases T:D.ac D.ij (vJ (dc l) i)with
  |true=>rw[T]at H;exact(@decide_eq_true _ (Classical.propDecidable _) (H.2 rfl)).symm
  |false=>rw[T]at H;exact(@decide_eq_false _ (Classical.propDecidable _) λa=>by simp[H]at a).symm
 have e2:(D.n.dH l.length l.length).call=List.replicate ws.length (List.replicate n.calls.toNat 0):=by rw[o,b];rfl
 have e3:(D.n.dH l.length l.length).push=(List.range ws.length).map λ(s:Nat)=>(List.range n.calls.toNat).map λ(c:Nat)=>(s:Int)*n.calls+(c:Int):=by rw[o,b];rfl
 have e4:(List.range l.length).map (λi=>(List.range D.n.af.toNat).map λj=>BZ D cls (dc l) st i j)=(List.range ws.length).map λ(i:Nat)=>(List.range n.af.toNat).map λ(j:Nat)=>gn n.dS n.bB ws (ix ws (i:Int) ++ [n.calls+(j:Int)]):=by
  rw[o];refine fv λi m=>?_;have m:=bT.1 m;rw[b];refine fv λj C=>?_;have C:=bT.1 C;have hd:=Dv.aH _ (j:Int) _ (by omega) (by rw[b];omega) (u i m).1
  have:=w _ _ hd;rw[b]at this;exact this
 have e5:(List.range l.length).map (λi=>(List.range (D.n.ay l.length)).map λg=>(List.range D.n.aj.toNat).map λr=>tO D cls (dc l) st i g r)=(List.range ws.length).map λ(i:Nat)=>(List.range (n.dS.ay ws.length)).map λ(g:Nat)=>(List.range n.aj.toNat).map λ(r:Nat)=>if n.calls.toNat=0 then 0 else gn n.dS n.bB ws (ix ws ((g/n.calls.toNat:Nat):Int)++((g%n.calls.toNat:Nat):Int)::(ix ws (i:Int) ++ [n.calls+n.af+(r:Int)])):=by
  rw[x,o];refine fv λi m=>?_;have m:=bT.1 m;refine fv λg O=>?_;have O:=bT.1 O;rw[b];refine fv λr U=>?_;have U:=bT.1 U;unfold tO;rw[b]
  by_cases A:n.calls.toNat=0
  .rw[ab A,ab A]
  .rw[aa A,aa A]
   have G:=Nat.mod_lt g (show 0<n.calls.toNat by omega)
   have JV : g<max 1 (l.length*n.calls.toNat):=O;have h0:1<=l.length*n.calls.toNat:=Nat.mul_pos (by omega) (by omega)
   have P:g/n.calls.toNat<l.length:=by
    rw[sK (by omega)]
    omega
   have hd:=Dv.ak _ ((g%n.calls.toNat:Nat):Int) _ (r:Int) _ _ (by omega) (by rw[b];omega) (by omega) (by rw[b];omega) (u _ P).1 (u i m).1
   have:=w _ _ hd;rw[b]at this;exact this
 have e6:((D.n.ay (dc l).length:Nat):Int)=((n.dS.ay ws.length:Nat):Int):=by rw[z,x]
 unfold r6 cA;rw[z]at *;rw[e1,e2,e3,e4,e5,e6,b]
theorem zq.out{n r:al}{e:Int}(h:zq (vP n) n r e) (hv:n.aX=0) (hb:∀D,Kc (vP n) n D->D.K.length<=512):∃ws,gP n.dS n.bB ws/\(r,e)=zt n.dS n.bB ws:=by
 cases h with
 |inv h=>exact absurd hv h
 |many D _ hd hk=>have:=hb D hd;omega
 |dz D cls k _ hc hk=>
  obtain⟨l,hl⟩:=hc.SB;refine⟨_,hl.Cb hc,?_⟩;unfold zt;rw[hl.I6,ab hk]
 |IZ D cls k S l _ U hn=>
  obtain⟨l', V⟩:=U.c.SB;refine⟨_,V.Cb U.c,?_⟩;have hD:=oB U.c.d.v U.c.f;unfold zt;have hkb:=U.kb;rw[V.I6,aa (by show ¬(128<k\/128<k*n.calls.toNat);omega),ab]
  obtain⟨c,hc,SC⟩:=List.any_eq_true.1 hn;simp[neg]at SC;obtain⟨i,hi,e⟩:=fu.1 hc;rw[<-aG hi]at e;have hlen:=U.l.len;obtain⟨_,DJ⟩:=U.l.no i (by omega) (by rw[e];exact SC)
  obtain⟨⟨x,hx,ex⟩,aln⟩:=V.w i (by omega)
  have rx:=hx.fb hD;refine⟨_,cB.2 ⟨ix l' (i:Int),(pn l').mem_iff.2 (aO (by omega) (by have:=V.len;omega)),rfl⟩,cZ λhsm=>?_⟩
  have hf:=(U.s.fd x rx.1 (by rw[U.s.l];exact rx.2)).2 ⟨_,⟨hx,λv hv=>aln x v hv ex⟩,by omega⟩
  have:=DJ x.toNat (by omega) (by rw[show((x.toNat:Nat):Int)=x by omega];exact ex)
  rw[show((x.toNat:Nat):Int)=x by omega,hf]at this
  simp at this
 |ok D cls k S l st _ U hn h1 h2=>
  have Rm:=U.SB hn;refine⟨_,Rm.Cb U.c,?_⟩;have hkb:=U.kb;unfold zt;rw[Rm.I6,aa (by show ¬(128<k\/128<k*n.calls.toNat);omega),aa,alm U hn h1 h2]
  rintro⟨w,hw,cL⟩;obtain⟨c,hc,rfl⟩:=cB.1 hw;obtain⟨i,hi,e⟩:=fu.1 ((pn l).mem_iff.1 hc);have hlen:=U.l.len;have rA:=List.any_eq_false.1 hn _ (aO (l:=l) (n:=(i:Int)) (by omega) (by omega))
  simp[neg]at rA;have:=(U.wd (i:=i) (by omega) rA).2.2.2
  rw[aG hi,e]at this;omega
def sd (m:Nat):Nat->List (List Int)
 |0=>[[]]
 |e+1=>(List.range m).flatMap λ(x:Nat)=>(sd m e).map λv=>(x:Int)::v
theorem SD{m:Nat}:∀e,(sd m e).length=m^e
 |0=>rfl
 |e+1=>by
  have b:=SD (m:=m) e;have:∀k:Nat,((List.range k).flatMap λ(x:Nat)=>(sd m e).map λv=>(x:Int)::v).length=k*m^e:=by
   intro k
   induction k with
   |zero=>simp
   |succ k a=>rw[gw,List.flatMap_append,aY,a,eX];simp[b]
  unfold sd;rw[this m,Nat.pow_succ,jd]
theorem SE{m:Nat}:∀{e:Nat}{k:List Int},k.length=e->(∀x∈k,0<=x/\x<(m:Int))->k∈sd m e
 |0,[],_,_=>by simp[sd]
 |e+1,x::k,a,h=>by
  have d:=h x (by simp)
  unfold sd;rw[qh];exact⟨x.toNat,by rw[bT];omega,cB.2 ⟨k,SE (by simpa using a) λy b=>h y (by simp[b]),by rw[show((x.toNat:Nat):Int)=x by omega]⟩⟩
theorem Kc.few{n:al}{D:Vd}(h:Kc (vP n) n D):D.K.length<=n.accept.length^n.aZ.length:=by
 have:=Sg (l:=D.K) (L:=sd n.accept.length n.aZ.length) h.v.nd λk U=>by
  obtain⟨h1,h2⟩:=h.v.ok.st k U;rw[h.n]at h1 h2;exact SE h2 h1
 rw[SD]at this;exact this
end Ab
