/- slices.SortFunc, at structs with different first cells. Condition: the library's own text, as the kit's contract has walked it. -/
import Derived.Test.YtdenhmniigikcaaGreatAbSortS
set_option linter.all false
open Option renaming some->aa,none->ab
open Bool renaming true->ad
open List renaming range->af,length->ah
namespace Ab
open Go Go.Proofs Go.Shelf Go.Sort
variable{P:Program}
section
variable{α:Type} [Inhabited α]{enc:α->Value}
variable{w:World}{id off m:Nat}{os:Array Obj}
theorem aiW{a:Array α}:(sortWorld enc w id off m a os).heap.size=w.heap.size+os.size:=by
 simp[sortWorld,grow,putRow,mapBlock,«Sort».ahead]
theorem aiX{a:Array α}{j:Nat}(h:j<w.heap.size) (b:j ≠ id):(sortWorld enc w id off m a os).heap[j]? = w.heap[j]?:=by
 simp only[sortWorld,grow,putRow,mapBlock,«Sort».ahead];rw[mm du,ug,aC ax]
end
def SF{r:Nat->Nat}{cf:Nat->Nat->Int}(h:∀i j,cf i j<0↔r i<r j):SWO (ltOf cf) where
 irrefl x:=by simp only[ltOf,yM,h];omega
 trans x y z h1 h2:=by simp only[ltOf,fy,h]at *;omega
 ntrans x y z h1 h2:=by simp only[ltOf,yM,h]at *;omega
def SG{a b:Type}{f:a->List b}{k:Nat}:∀{l:List a},(∀x∈l,ah (f x)=k)->ah (l.flatMap f)=ah l*k
 | [],_=>by simp
 |x::l,h=>by
  have d:=SG (f:=f) (k:=k) (l:=l) λy e=>h y fX
  rw[jD,bM,d,h x aA,cT,fG,Nat.one_mul,Nat.add_comm]
def SH{b e:Type}{f:b->List e}{k:Nat}:∀{l:List b}{t:Nat},(∀x∈l,ah (f x)=k)->0<k->t<ah l*k->(l.flatMap f)[t]? = (l[t/k]?).bind λx=>(f x)[t%k]?
 | [],t,_,_,h=>by simp at h
 |x::l,t,h,d,g=>by
  have i:=h x aA
  rw[jD]
  by_cases a:t<k
  .rw[dq ax,Nat.div_eq_of_lt a,Nat.mod_eq_of_lt a];rfl
  .have j:=SH (f:=f) (k:=k) (l:=l) (t:=t-k) (λy m=>h y (by simp[m])) d (by rw[cT,fG]at g;omega)
   rw[dW ax,i,j]
   obtain⟨u,rfl⟩:∃u,t=u+k:=⟨t-k,ax⟩
   rw[Nat.add_sub_cancel,Nat.add_div_right u d,Nat.add_mod_right]
   rfl
variable{w:World}{off:Nat}
def aiY{a:Type} [Inhabited a]{enc:a->Value}{id n:Nat}{d' : Array a}{os:Array Obj}{c:Array Value}{el:TypeId}(g:w.heap[id]? = aa (.cells c el (0,0))) (h:off+d'.size<=c.size) :
  (w.setRow id (c.toList.take off++d'.toList.map enc++c.toList.drop (off+ah (d'.toList.map enc))).toArray).heap.size<=(sortWorld enc w id off n d' os).heap.size/\
  ∀k,k<w.heap.size->(sortWorld enc w id off n d' os).heap[k]? = (w.setRow id (c.toList.take off++d'.toList.map enc++c.toList.drop (off+ah (d'.toList.map enc))).toArray).heap[k]?:=by
 refine⟨by rw[py,aiW];omega,λk j=>?_⟩
 by_cases e:k=id
 .subst e
  rw[setRow_heap w k c _ el (0,0) g];simp only[sortWorld,grow,putRow,mapBlock,«Sort».ahead];rw[mm (by simpa using j),ug,aD rfl,g]
  simp only[nh,onCells,ct,mw,and_true];apply Array.ext_getElem?;intro i;have b:∀L:List Value,L.toArray[i]? = L[i]?:=λL=>aA
  rw[b (c.toList.take off++d'.toList.map enc++c.toList.drop (off+ah (d'.toList.map enc)))];simp only[putCells,Array.getElem?_mapIdx,db,pB]
  by_cases l:i<off
  .rw[jg,dq aT,wh,aD l,jS]
   cases m:c[i]? with
   |none=>rfl
   |some v=>simp;omega
  .by_cases o:i<off+d'.size
   .rw[dq aT,dW aT,gP]
    have d:i<c.size:=ax
    rw[mu d];simp only[pA,pB,nh];rw[aD ax,show min off c.size=off by omega,jS,mu ax]
    simp[getElem!_def,mu (show i-off<d'.size by omega)]
   .rw[dW aT,oB,jS]
    simp only[bM,pA,pB,db];rw[show off+d'.size+(i-(min off c.size+d'.size))=i by omega]
    cases m:c[i]? with
    |none=>rfl
    |some v=>simp;omega
 .rw[aiX j e,kZ w id _ e]
variable{ρ:Ren}{k:Nat}
def aiZ(L:SlLaysF0.n6 P ρ)(hkd:cg P (ρ.t 24) (aa k)=ad){ce:CE}(sg:cR P ce) (Ag:eT P ce){b u len g:Nat}{cU:ao}{σ:aq}{B:aO}(hu:upto σ b u=aa B) (kC:B.st = .live) (hk:B.k=aa k) (uH:0<k) (hlen:0<len) (vW:off+len*k<=ah B.cells) (qk:ah B.cells<=eE)
  (Br:kh ce g cU (lz (chunk (aa k) len (B.cells.drop off)))=ad) {ids:Nat->Nat} {I:Nat->Prop}  {vs:List Value} (hg:Good (aI σ ids I) w) (hv:cH (aI σ ids I) w.heap [.sl b u off len,.func g cU] vs) :
  Calls P (ρ.f 6) vs.toArray w λe w' =>∃v cA I', e = .returned v/\Good (aI (aV σ b ⟨B.k,putAt B.cells off ((lz (chunk (aa k) len (B.cells.drop off))).flatMap AV.cells),B.st⟩) cA I') w' /\VR (aI (aV σ b ⟨B.k,putAt B.cells off ((lz (chunk (aa k) len (B.cells.drop off))).flatMap AV.cells),B.st⟩) cA I') w'.heap (.bY []) v/\Step (aI σ ids I) w (aI (aV σ b ⟨B.k,putAt B.cells off ((lz (chunk (aa k) len (B.cells.drop off))).flatMap AV.cells),B.st⟩) cA I') w' :=by
 obtain⟨hb,ui,rp⟩:=uk hu;have dF:=pt ids I hu;subst ui;obtain⟨v1,s1,rfl,si,v2,s2,rfl,Dk,rfl⟩:=hv;unfold VR at si Dk;have si:=si.2.2 B _ dF;rw[kC]at si;obtain⟨c,el,o,cap,hH,e1,AJ,Zi,vE⟩:=si;rw[AJ ax]at e1
 obtain⟨cb,e2,N2⟩:=Dk;obtain⟨Zq,c', Da, yD, hle,ql⟩:=hg.live b _ B _ dF kC;rw[hH]at yD;simp only[ct,mw]at yD;obtain⟨rfl,rfl,_⟩:=yD;generalize hD:chunk (aa k) len (B.cells.drop off)=D at Br ⊢;have hDl:ah D=len:=by rw[<-hD,P7]
 have Bt:∀i,i<len->D[i]? = aa (.agg ((B.cells.drop (off+i*k)).take k)):=λi hi=>by
  rw[<-hD,P6 len _ aT i hi,List.drop_drop]
 let mJ:Nat->Nat:=λi=>min i (len-1)
 have Bu:∀i,mJ i<len:=λi=>by show min i (len-1)<len;omega
 have Ep:∀i,off+mJ i*k+k<=ah B.cells:=λi=>by
  have:=mq k (show mJ i+1<=len from Bu i);rw[fG]at this;omega
 let av:Nat->AV:=λi=>.agg ((B.cells.drop (off+mJ i*k)).take k)
 let enc:Nat->List Value:=λi=>(c.toList.drop (off+mJ i*k)).take k
 have hek:∀i,ah (enc i)=k:=λi=>by
  have:=Ep i;show(ah ((c.toList.drop (off+mJ i*k)).take k))=k;simp;omega
 have mH:∀i (j:Nat),j<k->∃x y,B.cells[off+mJ i*k+j]? = aa x/\c[off+mJ i*k+j]? = aa y/\VR (aI σ ids I) w.heap x y/\y.oneCell' = ad/\(enc i)[j]? = aa y:=λi j hj=>by
  have:=Ep i;have hx:=dG (show off+mJ i*k+j<ah B.cells by omega)
  obtain⟨y,k1,k2,k3⟩:=ql _ _ hx;refine⟨_,y,hx,k1,k2,k3,?_⟩;show((c.toList.drop (off+mJ i*k)).take k)[j]? = aa y;rw[wh,aD hj,oB,jS];exact k1
 have ng:∀i,∀v∈enc i,v.oneCell' = ad:=λi v hv=>by
  obtain⟨j,hj⟩:=vX.1 hv;have hjk:j<k:=by rw[<-hek i];exact(dp.1 hj).1
  obtain⟨_,y,_,_,_,h3,h4⟩:=mH i j hjk;rw[hj]at h4;cases h4;exact h3
 have yB:∀i (n p:Nat),p+n=k->cH (aI σ ids I) w.heap ((B.cells.drop (off+mJ i*k+p)).take n) ((c.toList.drop (off+mJ i*k+p)).take n):=λi n=>by
  induction n with
  |zero=>intro p _;simp[cH]
  |succ n ih=>
   intro p hp;have:=Ep i;obtain⟨x,y,h1,h2,h3,_,_⟩:=mH i p ax
   have l1:off+mJ i*k+p<ah B.cells:=ax
   have l2:off+mJ i*k+p<ah c.toList:=aT
   rw[rH l1,rH l2,List.take_succ_cons,List.take_succ_cons];refine⟨_,_,rfl,?_,ih (p+1) ax⟩
   rw[dG l1]at h1;rw[<-Array.getElem?_toList,dG l2]at h2;cases h1;cases h2;exact h3
 have GP:∀i,VR (aI σ ids I) w.heap (av i) (.agg (enc i).toArray):=λi=>by
  unfold VR;exact⟨enc i,rfl,yB i k 0 ax,ng i⟩
 have SI:∀i,D[mJ i]? = aa (av i):=λi=>Bt _ (Bu i);have hpS:=Pv D;generalize hS:lz D=S at *;have hSl:ah S=len:=by rw[hpS.length_eq,hDl]
 have hSn:S.Nodup:=by
  rw[List.nodup_iff_pairwise_ne,rI];intro a b ha hb BA e;obtain⟨q,q1,q2⟩:=D3 Br (dG ha) (dG hb);obtain⟨q', q3,q4⟩:=D3 Br (dG hb) (dG ha);rw[e]at q1 q3;rw[q1]at q3;simp only[ct]at q3;subst q3;have:=q2.2 BA;have:=q4.1 this;omega
 have hex:∀i,∃j,j<len/\S[j]? = aa (av i):=λi=>by
  obtain⟨j,hj⟩:=vX.1 (hpS.mem_iff.2 (vX.2 ⟨_,SI i⟩));exact⟨j,by rw[<-hSl];exact(dp.1 hj).1,hj⟩
 obtain⟨r,hr⟩:=Classical.axiomOfChoice hex;have Dn:∀i j,∃q,jF ce g cU (av i) (av j)=aa q/\(q<0↔r i<r j):=λi j=>D3 Br (hr i).2 (hr j).2
 let cf:Nat->Nat->Int:=λi j=>(jF ce g cU (av i) (av j)).getD 0
 have Bw:∀i j,jF ce g cU (av i) (av j)=aa (cf i j):=λi j=>by
  obtain⟨q,h1,_⟩:=Dn i j;show _=aa ((jF ce g cU (av i) (av j)).getD 0);rw[h1];rfl
 have Dd:∀i j,cf i j<0↔r i<r j:=λi j=>by
  obtain⟨q,h1,h2⟩:=Dn i j;have:cf i j=q:=by show(jF ce g cU (av i) (av j)).getD 0=q;rw[h1];rfl
  rw[this];exact h2
 have eg:∀args w,(callFunc g args).run P w = .ok (.enter g args) w:=by
  have h:=Bw 0 0;unfold jF at h;have hp:∃x,j7 ce g (av 0::av 0::cU)=aa x:=by
   split at h
   .rename_i c yy; exact⟨_,yy⟩
   .simp at h
  obtain⟨x,hp⟩:=hp;unfold j7 at hp;split at hp
  case isFalse=>simp at hp
  cases hc:ce g ((av 0::av 0::cU).map wk) []with
  |none=>rw[hc]at hp;simp at hp
  |some r=>exact Ay (Ag g _ _ r hc)
 have Bx:=(kV.1 hH).1;have SJ:∀t,t<len*k->(flatK enc k (Array.range len))[t]? = c[off+t]?:=λt ht=>by
  have IQ:=Nat.mod_lt t uH;have Di:t/k<len:=(vQ uH).2 ht;have hdm:=Nat.div_add_mod t k;have hi0:mJ (t/k)=t/k:=by show min (t/k) (len-1)=t/k;omega
  obtain⟨_,y,_,h2,_,_,h5⟩:=mH (t/k) (t%k) IQ;rw[hi0]at h2;have:off+t/k*k+t%k=off+t:=by rw[mY];omega
  rw[this]at h2;rw[h2];simp only[flatK,Array.getElem?_map,ux];rw[Array.getElem?_range,aD ht];simp only[nh,ct];have hr:(Array.range len)[t/k]! = t/k:=by rw[getElem!_def,Array.getElem?_range,aD Di]
  rw[hr,getElem!_def,h5]
 have ai0:(flatK enc k (Array.range len)).size=len*k:=by simp[flatK]
 have wL:HoldsK enc k w (ids b) off (Array.range len):=λj hj=>by
  rw[ai0]at hj;have h1:=SJ j hj;have cw:off+j<c.size:=ax
  refine⟨?_,?_⟩
  .simp only[World.cell?,hH]
   rw[getElem!_def,h1,mu cw];simp[cw]
  .simp[World.frozen?,hH]
 have key:=AnyQ.slices_SortFunc L k (λw=>by have:=vY hkd w;exact this) (λw=>by have:=mr (px hkd) w;exact this) enc hek ng cf (SF Dd) g cb.toArray (ids b) off cap (Array.range len) w eg
  (acg sg hg N2 Zq GP Bw) wL Bx (by
   have:len*1<=len*k:=Nat.mul_le_mul_left len uH;simp[eE]at qk ⊢;omega)
 simp only[ux]at key;rw[e1,e2];refine key.mono ?_;rintro e w' ⟨rfl,d', n,os,hp,hs,rfl⟩;obtain⟨p1,_,p3⟩:=hp;simp only[ux]at p1 p3;have By:d'.toList.Perm (af len):=by
  have e3:(d'.extract 0 len).toList=d'.toList:=by rw[<-p1];simp
  have e4:((Array.range len).extract 0 len).toList=af len:=by
   have:(Array.range len).extract 0 len=Array.range len:=by
    have:=Array.extract_size (xs:=Array.range len)
    rwa [ux]at this
   rw[this];simp
  rw[e3,e4]at p3;exact p3
 have Bz:(af len).map av=D:=by
  apply List.ext_getElem? λi=>?_;rw[gP]
  by_cases hi:i<len
  .rw[wj hi]
   have:=SI i;rw[show mJ i=i by show min i (len-1)=i;omega]at this
   rw[this];rfl
  .rw[il aT,il ax];rfl
 have hE:d'.toList.map av=S:=by
  refine List.Perm.eq_of_pairwise (le:=λx y=>∃a b:Nat,a<=b/\S[a]? = aa x/\S[b]? = aa y) (λx y _ _ h k=>?_) ?_ ?_ (((By.map av).trans (by rw[Bz])).trans hpS.symm)
  .obtain⟨a,b,h1,h2,h3⟩:=h
   obtain⟨a', b', k1,k2,k3⟩:=k;obtain⟨l1,AG⟩:=dp.1 h2;obtain⟨l2,h3'⟩:=dp.1 h3;obtain⟨l3,k2'⟩:=dp.1 k2;obtain⟨l4,k3'⟩:=dp.1 k3;have e1:a=b' :=(List.getElem_inj hSn).1 (AG.trans k3'.symm);have e2:b=a' :=(List.getElem_inj hSn).1 (h3'.trans k2'.symm);have:a=b:=ax
   subst this;rw[<-AG, <-h3']
  .rw[List.pairwise_map,rI]
   intro i j hi hj xW;simp only[pB]at hi hj;have:=hs i j (Nat.zero_le _) xW ax
   rw[getElem!_pos d' j hj,getElem!_pos d' i hi]at this;simp only[ltOf,yM,Dd]at this;simp only[Array.getElem_toList];exact⟨_,_,ax,(hr d'[i]).2,(hr d'[j]).2⟩
  .rw[rI]
   intro i j hi hj xW;exact⟨i,j,ax,dG hi,dG hj⟩
 have yH:S.flatMap AV.cells=d'.toList.flatMap λi=>(B.cells.drop (off+mJ i*k)).take k:=by
  rw[<-hE,List.flatMap_map]
 have hck:∀i,ah ((B.cells.drop (off+mJ i*k)).take k)=k:=λi=>by
  have:=Ep i;simp;omega
 have Db:ah (S.flatMap AV.cells)=len*k:=by
  rw[yH,SG λi _=>hck i];simp[p1]
 have NY:(flatK enc k d').size=len*k:=by simp[flatK,p1]
 obtain⟨g1,g2⟩:=yE (vals:=(flatK enc k d').toList.map id) (new:=S.flatMap AV.cells) (off:=off) hg dF kC (pC (u:=0) hb) hH ax (by rw[Db];simp[NY]) (λt q ht=>by
  have N4:t<len*k:=by rw[<-Db];exact(dp.1 ht).1
  have IQ:=Nat.mod_lt t uH;have Di:t/k<len:=(vQ uH).2 N4;have IS:t/k<ah d'.toList:=by simp[p1,Di]
  rw[yH,SH (λi _=>hck i) uH (by simpa[p1]using N4),dG IS]at ht
  simp only[Option.bind_some]at ht;obtain⟨x,y,h1,h2,h3,h4,h5⟩:=mH (d'.toList[t/k]) (t%k) IQ;have hx:x=q:=by
   rw[wh,aD IQ,oB,h1]at ht;exact Option.some.inj ht
  subst hx;refine⟨y,?_,h3,h4⟩;rw[gP,jS];simp only[flatK,Array.getElem?_map,p1];rw[Array.getElem?_range,aD N4];simp only[nh,id,ct];rw[getElem!_pos d' (t/k) (by simpa using IS)]
  rw[getElem!_def];simp only[Array.getElem_toList]at h5;rw[h5])
 obtain⟨pl,_⟩:=uj B.cells (S.flatMap AV.cells) off ax
 have ji:=rC (ids:=ids) (I:=I) (id' :=ids b) (B' :=⟨B.k,putAt B.cells off (S.flatMap AV.cells),B.st⟩) hb rp;have qm:(λq=>if q=b then ids b else ids q)=ids:=lf
 rw[qm]at ji;obtain⟨f1,f2⟩:=Good.shrink (C2:=aI (aV σ b ⟨B.k,putAt B.cells off (S.flatMap AV.cells),B.st⟩) ids I) g1 rfl (λb1 u1 e1 h1=>by
  have:=ji b1 u1 e1 h1;simp only[pl]at this;exact this) (λb1 u1 h1=>rD (ids:=ids) (I:=I) hb (by show (ah B.cells)<=ah (putAt B.cells off (S.flatMap AV.cells));rw[pl];exact bG _) b1 u1 h1)
 obtain⟨r1,r2⟩:=aiY (enc:=id) (off:=off) (n:=n) (os:=os) (d' :=flatK enc k d') hH (by rw[NY];omega)
 have gd:∀j,j<(w.setRow (ids b) (c.toList.take off++(flatK enc k d').toList.map id++c.toList.drop (off+ah ((flatK enc k d').toList.map id))).toArray).heap.size->(sortWorldK enc k w (ids b) off n d' os).heap[j]? = (w.setRow (ids b) (c.toList.take off++(flatK enc k d').toList.map id++c.toList.drop (off+ah ((flatK enc k d').toList.map id))).toArray).heap[j]?:=λj hj=>r2 j (by rwa [py]at hj)
 obtain⟨q1,q2⟩:=f1.qh r1 gd I (λ_ h=>h) (λj hj=>Nat.lt_of_lt_of_le (f1.I j hj) r1) (λj hj=>.inl hj) rfl ⟨rfl,by show w.drawn<=w.drawn+n;omega⟩ rfl
 exact⟨_,ids,I,rfl,q1,oH,(g2.trans f2).trans q2⟩
def ai1(L:SlLaysF0.n6 P ρ){f:Nat}(K:ρ.f 6=f) (y:cg P (ρ.t 24) (aa k)=ad) (M:dm P f=ad):fH P f (ki k):=by
 subst K;refine⟨M,λce z A args q r N i ids I w W E s=>?_⟩;have d:∀(l:Value) (p:Option Addr) (cap:Nat),Calls P (ρ.f 6) #[.slice p 0 cap,l] w λe x =>∃v j C, e = .returned v/\Good (aI q j C) x /\VR (aI q j C) x.heap (.bY []) v/\Step (aI q ids I) w (aI q j C) x :=λl p cap=>by
  refine(AnyF.slices_SortFunc_none (P:=P) (ρ:=ρ) L p cap l w).mono ?_;rintro e x ⟨rfl,rfl⟩;exact⟨_,ids,I,rfl,E,oH,Step.refl _ _⟩
 unfold ki at i;split at i
 .simp only[ct,Prod.mk.injEq]at i
  obtain⟨rfl,rfl⟩:=i;obtain⟨D,F,rfl,h,l,G,rfl,n,rfl⟩:=s;have h:D = .slice ab 0 0:=h;subst h;exact d l ab 0
 .simp only[ct,Prod.mk.injEq]at i
  obtain⟨rfl,rfl⟩:=i;obtain⟨D,F,rfl,h,l,G,rfl,n,rfl⟩:=s;unfold VR at h;rcases h.2 with⟨_,a,rfl,_⟩|⟨aQ,off,cap,st,c,el,X,rfl,_⟩
  .exact d l a 0
  .exact d l _ cap
 .rename_i b u off len g H
  split at i
  .rename_i B O
   split at i
   .rename_i o
    simp only[ct,Prod.mk.injEq]at i;obtain⟨rfl,rfl⟩:=i;have o:len=0:=by simpa using o
    subst o;obtain⟨D,F,rfl,h,l,G,rfl,n,rfl⟩:=s;unfold VR at h;obtain⟨⟨p,cap,rfl,_⟩,_⟩:=h;exact d l p cap
   .rename_i o
    split at i
    .rename_i J
     simp only[bd,fy]at J;obtain⟨⟨⟨⟨⟨Q,R⟩,S⟩,T⟩,U⟩,V⟩:=J;simp only[ct,Prod.mk.injEq]at i;obtain⟨rfl,rfl⟩:=i;have m:B.st = .live:=by revert R;cases B.st<;>simp[fR.isLive]
     exact aiZ L y z A O m (DS Q) S (Nat.pos_of_ne_zero (by simpa using o)) T U V E s
    .simp at i
  .simp at i
 .simp at i
end Ab
