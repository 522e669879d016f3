/- slices.SortFunc, at structs with different first cells. Condition: the library's own text, as the kit's contract has walked it. -/
import Derived.Test.YtdenhmniigikcaaGreatAbSortS
set_option linter.all false
namespace Ab
open Go Go.Proofs Go.Shelf Go.Sort
variable{P:Program}
section
variable{α:Type} [Inhabited α]{enc:α->Value}
variable{w:World}{id off m:Nat}{os:Array Obj}
theorem aev{a:Array α}:(sortWorld enc w id off m a os).heap.size=w.heap.size+os.size:=by
 simp[sortWorld,grow,putRow,mapBlock,«Sort».ahead]
theorem aew{a:Array α}{j:Nat}(h:j<w.heap.size) (b:j ≠ id):(sortWorld enc w id off m a os).heap[j]? = w.heap[j]?:=by
 simp only[sortWorld,grow,putRow,mapBlock,«Sort».ahead];rw[kq (by simpa using h),qQ,aa (by omega)]
end
theorem Ow{r:Nat->Nat}{cf:Nat->Nat->Int}(h:∀i j,cf i j<0↔r i<r j):SWO (ltOf cf) where
 irrefl x:=by simp only[ltOf,uV,h];omega
 trans x y z h1 h2:=by simp only[ltOf,dY,h]at *;omega
 ntrans x y z h1 h2:=by simp only[ltOf,uV,h]at *;omega
theorem Ox{a b:Type}{f:a->List b}{k:Nat}:∀{l:List a},(∀x∈l,(f x).length=k)->(l.flatMap f).length=l.length*k
 | [],_=>by simp
 |x::l,h=>by
  have d:=Ox (f:=f) (k:=k) (l:=l) λy e=>h y (by simp[e])
  rw[gX,aY,d,h x (by simp),bX,eX,Nat.one_mul,Nat.add_comm]
theorem Oy{b e:Type}{f:b->List e}{k:Nat}:∀{l:List b}{t:Nat},(∀x∈l,(f x).length=k)->0<k->t<l.length*k->(l.flatMap f)[t]? = (l[t/k]?).bind λx=>(f x)[t%k]?
 | [],t,_,_,h=>by simp at h
 |x::l,t,h,d,g=>by
  have i:=h x (by simp)
  rw[gX]
  by_cases a:t<k
  .rw[eC (by omega),rf a,pZ a];rfl
  .have j:=Oy (f:=f) (k:=k) (l:=l) (t:=t-k) (λy m=>h y (by simp[m])) d (by rw[bX,eX]at g;omega)
   rw[eK (by omega),i,j]
   obtain⟨u,rfl⟩:∃u,t=u+k:=⟨t-k,by omega⟩
   rw[Nat.add_sub_cancel,Nat.add_div_right u d,Nat.add_mod_right]
   rfl
variable{w:World}{off:Nat}
theorem aex{a:Type} [Inhabited a]{enc:a->Value}{id n:Nat}{d' : Array a}{os:Array Obj}{c:Array Value}{el:TypeId}(g:w.heap[id]? = some (.cells c el (0,0))) (h:off+d'.size<=c.size) :
  (w.setRow id (c.toList.take off++d'.toList.map enc++c.toList.drop (off+(d'.toList.map enc).length)).toArray).heap.size<=(sortWorld enc w id off n d' os).heap.size/\
  ∀k,k<w.heap.size->(sortWorld enc w id off n d' os).heap[k]? = (w.setRow id (c.toList.take off++d'.toList.map enc++c.toList.drop (off+(d'.toList.map enc).length)).toArray).heap[k]?:=by
 refine⟨by rw[mJ,aev];omega,λk j=>?_⟩
 by_cases e:k=id
 .subst e
  rw[setRow_heap w k c _ el (0,0) g];simp only[sortWorld,grow,putRow,mapBlock,«Sort».ahead];rw[kq (by simpa using j),qQ,ab rfl,g]
  simp only[l6,onCells,bJ,kv,and_true];apply Array.ext_getElem?;intro i;have b:∀L:List Value,L.toArray[i]? = L[i]?:=λL=>by simp
  rw[b (c.toList.take off++d'.toList.map enc++c.toList.drop (off+(d'.toList.map enc).length))];simp only[putCells,Array.getElem?_mapIdx,cY,mK]
  by_cases l:i<off
  .rw[iw,eC (by simp;omega),sU,ab l,iu]
   cases m:c[i]? with
   |none=>rfl
   |some v=>simp;omega
  .by_cases o:i<off+d'.size
   .rw[eC (by simp;omega),eK (by simp;omega),fS]
    have d:i<c.size:=by omega
    rw[ku d];simp only[nw,mK,l6];rw[ab (by omega),show min off c.size=off by omega,iu,ku (by omega)]
    simp[getElem!_def,ku (show i-off<d'.size by omega)]
   .rw[eK (by simp;omega),kz,iu]
    simp only[aY,nw,mK,cY];rw[show off+d'.size+(i-(min off c.size+d'.size))=i by omega]
    cases m:c[i]? with
    |none=>rfl
    |some v=>simp;omega
 .rw[aew j e,jy w id _ e]
variable{ρ:Ren}{k:Nat}
theorem aey(L:SlLaysF0.n6 P ρ)(hkd:bu P (ρ.t 24) (some k)=true){ce:CE}(pD:ck P ce) (zg:dX P ce){b u len g:Nat}{cc:List AV}{σ:List ah}{B:ah}(hu:upto σ b u=some B) (iV:B.st = .live) (hk:B.k=some k) (ru:0<k) (hlen:0<len) (wS:off+len*k<=B.cells.length) (nA:B.cells.length<=dz)
  (xD:iK ce g cc (jH (chunk (some k) len (B.cells.drop off)))=true) {ids:Nat->Nat} {I:Nat->Prop}  {vs:List Value} (hg:Good (ad σ ids I) w) (hv:bW (ad σ ids I) w.heap [.sl b u off len,.func g cc] vs) :
  Calls P (ρ.f 6) vs.toArray w λe w' =>∃v bO I', e = .returned v/\Good (ad (ar σ b ⟨B.k,putAt B.cells off ((jH (chunk (some k) len (B.cells.drop off))).flatMap AV.cells),B.st⟩) bO I') w' /\VR (ad (ar σ b ⟨B.k,putAt B.cells off ((jH (chunk (some k) len (B.cells.drop off))).flatMap AV.cells),B.st⟩) bO I') w'.heap (.bF []) v/\Step (ad σ ids I) w (ad (ar σ b ⟨B.k,putAt B.cells off ((jH (chunk (some k) len (B.cells.drop off))).flatMap AV.cells),B.st⟩) bO I') w' :=by
 obtain⟨hb,qT,pC⟩:=qV hu;have fH:=mG ids I hu;subst qT;obtain⟨v1,s1,rfl,pG,v2,s2,rfl,zi,rfl⟩:=hv;unfold VR at pG zi;have pG:=pG.2.2 B _ fH;rw[iV]at pG;obtain⟨c,el,o,cap,hH,e1,wX,VZ,wa⟩:=pG;rw[wX (by omega)]at e1
 obtain⟨cb,e2,J2⟩:=zi;obtain⟨Uo,c', zb, uL, hle,nD⟩:=hg.live b _ B _ fH iV;rw[hH]at uL;simp only[bJ,kv]at uL;obtain⟨rfl,rfl,_⟩:=uL;generalize hD:chunk (some k) len (B.cells.drop off)=D at xD ⊢;have hDl:D.length=len:=by rw[<-hD,L1]
 have xE:∀i,i<len->D[i]? = some (.agg ((B.cells.drop (off+i*k)).take k)):=λi hi=>by
  rw[<-hD,L0 len _ (by simp;omega) i hi,List.drop_drop]
 let kG:Nat->Nat:=λi=>min i (len-1)
 have xF:∀i,kG i<len:=λi=>by show min i (len-1)<len;omega
 have Av:∀i,off+kG i*k+k<=B.cells.length:=λi=>by
  have:=kS k (show kG i+1<=len from xF i);rw[eX]at this;omega
 let av:Nat->AV:=λi=>.agg ((B.cells.drop (off+kG i*k)).take k)
 let enc:Nat->List Value:=λi=>(c.toList.drop (off+kG i*k)).take k
 have hek:∀i,(enc i).length=k:=λi=>by
  have:=Av i;show((c.toList.drop (off+kG i*k)).take k).length=k;simp;omega
 have tq:∀i (j:Nat),j<k->∃x y,B.cells[off+kG i*k+j]? = some x/\c[off+kG i*k+j]? = some y/\VR (ad σ ids I) w.heap x y/\y.oneCell' = true/\(enc i)[j]? = some y:=λi j hj=>by
  have:=Av i;have hx:=cO (show off+kG i*k+j<B.cells.length by omega)
  obtain⟨y,k1,k2,k3⟩:=nD _ _ hx;refine⟨_,y,hx,k1,k2,k3,?_⟩;show((c.toList.drop (off+kG i*k)).take k)[j]? = some y;rw[sU,ab hj,kz,iu];exact k1
 have qW:∀i,∀v∈enc i,v.oneCell' = true:=λi v hv=>by
  obtain⟨j,hj⟩:=sO.1 hv;have hjk:j<k:=by rw[<-hek i];exact(dq.1 hj).1
  obtain⟨_,y,_,_,_,h3,h4⟩:=tq i j hjk;rw[hj]at h4;cases h4;exact h3
 have vX:∀i (n p:Nat),p+n=k->bW (ad σ ids I) w.heap ((B.cells.drop (off+kG i*k+p)).take n) ((c.toList.drop (off+kG i*k+p)).take n):=λi n=>by
  induction n with
  |zero=>intro p _;simp[bW]
  |succ n ih=>
   intro p hp;have:=Av i;obtain⟨x,y,h1,h2,h3,_,_⟩:=tq i p (by omega)
   have l1:off+kG i*k+p<B.cells.length:=by omega
   have l2:off+kG i*k+p<c.toList.length:=by simp;omega
   rw[p9 l1,p9 l2,List.take_succ_cons,List.take_succ_cons];refine⟨_,_,rfl,?_,ih (p+1) (by omega)⟩
   rw[cO l1]at h1;rw[<-Array.getElem?_toList,cO l2]at h2;cases h1;cases h2;exact h3
 have CS:∀i,VR (ad σ ids I) w.heap (av i) (.agg (enc i).toArray):=λi=>by
  unfold VR;exact⟨enc i,rfl,vX i k 0 (by omega),qW i⟩
 have Oz:∀i,D[kG i]? = some (av i):=λi=>xE _ (xF i);have hpS:=Ll D;generalize hS:jH D=S at *;have hSl:S.length=len:=by rw[hpS.length_eq,hDl]
 have hSn:S.Nodup:=by
  rw[List.nodup_iff_pairwise_ne,qj];intro a b ha hb hab e;obtain⟨q,q1,q2⟩:=zT xD (cO ha) (cO hb);obtain⟨q', q3,q4⟩:=zT xD (cO hb) (cO ha);rw[e]at q1 q3;rw[q1]at q3;simp only[bJ]at q3;subst q3;have:=q2.2 hab;have:=q4.1 this;omega
 have hex:∀i,∃j,j<len/\S[j]? = some (av i):=λi=>by
  obtain⟨j,hj⟩:=sO.1 (hpS.mem_iff.2 (sO.2 ⟨_,Oz i⟩));exact⟨j,by rw[<-hSl];exact(dq.1 hj).1,hj⟩
 obtain⟨r,hr⟩:=Classical.axiomOfChoice hex;have OA:∀i j,∃q,gZ ce g cc (av i) (av j)=some q/\(q<0↔r i<r j):=λi j=>zT xD (hr i).2 (hr j).2
 let cf:Nat->Nat->Int:=λi j=>(gZ ce g cc (av i) (av j)).getD 0
 have xH:∀i j,gZ ce g cc (av i) (av j)=some (cf i j):=λi j=>by
  obtain⟨q,h1,_⟩:=OA i j;show _=some ((gZ ce g cc (av i) (av j)).getD 0);rw[h1];rfl
 have DI:∀i j,cf i j<0↔r i<r j:=λi j=>by
  obtain⟨q,h1,h2⟩:=OA i j;have:cf i j=q:=by show(gZ ce g cc (av i) (av j)).getD 0=q;rw[h1];rfl
  rw[this];exact h2
 have eg:∀args w,(callFunc g args).run P w = .ok (.enter g args) w:=by
  have h:=xH 0 0;unfold gZ at h;have hp:∃x,iE ce g (av 0::av 0::cc)=some x:=by
   split at h
   .rename_i c wL; exact⟨_,wL⟩
   .simp at h
  obtain⟨x,hp⟩:=hp;unfold iE at hp;split at hp
  case isFalse=>simp at hp
  cases hc:ce g ((av 0::av 0::cc).map wk) []with
  |none=>rw[hc]at hp;simp at hp
  |some r=>exact wK (zg g _ _ r hc)
 have xI:=(ju.1 hH).1;have OB:∀t,t<len*k->(flatK enc k (Array.range len))[t]? = c[off+t]?:=λt ht=>by
  have EH:=Nat.mod_lt t ru;have JX:t/k<len:=(sK ru).2 ht;have hdm:=Nat.div_add_mod t k;have hi0:kG (t/k)=t/k:=by show min (t/k) (len-1)=t/k;omega
  obtain⟨_,y,_,h2,_,_,h5⟩:=tq (t/k) (t%k) EH;rw[hi0]at h2;have:off+t/k*k+t%k=off+t:=by rw[jd];omega
  rw[this]at h2;rw[h2];simp only[flatK,Array.getElem?_map,re];rw[Array.getElem?_range,ab ht];simp only[l6,bJ];have hr:(Array.range len)[t/k]! = t/k:=by rw[getElem!_def,Array.getElem?_range,ab JX]
  rw[hr,getElem!_def,h5]
 have aez:(flatK enc k (Array.range len)).size=len*k:=by simp[flatK]
 have tp:HoldsK enc k w (ids b) off (Array.range len):=λj hj=>by
  rw[aez]at hj;have h1:=OB j hj;have cL:off+j<c.size:=by omega
  refine⟨?_,?_⟩
  .simp only[World.cell?,hH]
   rw[getElem!_def,h1,ku cL];simp[cL]
  .simp[World.frozen?,hH]
 have key:=AnyQ.slices_SortFunc L k (λw=>by have:=sP hkd w;exact this) (λw=>by have:=kr (mI hkd) w;exact this) enc hek qW cf (Ow DI) g cb.toArray (ids b) off cap (Array.range len) w eg
  (XD pD hg J2 Uo CS xH) tp xI (by
   have:len*1<=len*k:=Nat.mul_le_mul_left len ru;simp[dz]at nA ⊢;omega)
 simp only[re]at key;rw[e1,e2];refine key.mono ?_;rintro e w' ⟨rfl,d', n,os,hp,hs,rfl⟩;obtain⟨p1,_,p3⟩:=hp;simp only[re]at p1 p3;have xJ:d'.toList.Perm (List.range len):=by
  have e3:(d'.extract 0 len).toList=d'.toList:=by rw[<-p1];simp
  have e4:((Array.range len).extract 0 len).toList=List.range len:=by
   have:(Array.range len).extract 0 len=Array.range len:=by
    have:=Array.extract_size (xs:=Array.range len)
    rwa [re]at this
   rw[this];simp
  rw[e3,e4]at p3;exact p3
 have xL:(List.range len).map av=D:=by
  apply List.ext_getElem? λi=>?_;rw[fS]
  by_cases hi:i<len
  .rw[qi hi]
   have:=Oz i;rw[show kG i=i by show min i (len-1)=i;omega]at this
   rw[this];rfl
  .rw[jh (by simp;omega),jh (by omega)];rfl
 have hE:d'.toList.map av=S:=by
  refine List.Perm.eq_of_pairwise (le:=λx y=>∃a b:Nat,a<=b/\S[a]? = some x/\S[b]? = some y) (λx y _ _ h k=>?_) ?_ ?_ (((xJ.map av).trans (by rw[xL])).trans hpS.symm)
  .obtain⟨a,b,h1,h2,h3⟩:=h
   obtain⟨a', b', k1,k2,k3⟩:=k;obtain⟨l1,wT⟩:=dq.1 h2;obtain⟨l2,h3'⟩:=dq.1 h3;obtain⟨l3,k2'⟩:=dq.1 k2;obtain⟨l4,k3'⟩:=dq.1 k3;have e1:a=b' :=(List.getElem_inj hSn).1 (wT.trans k3'.symm);have e2:b=a' :=(List.getElem_inj hSn).1 (h3'.trans k2'.symm);have:a=b:=by omega
   subst this;rw[<-wT, <-h3']
  .rw[List.pairwise_map,qj]
   intro i j hi hj ur;simp only[mK]at hi hj;have:=hs i j (Nat.zero_le _) ur (by omega)
   rw[getElem!_pos d' j hj,getElem!_pos d' i hi]at this;simp only[ltOf,uV,DI]at this;simp only[Array.getElem_toList];exact⟨_,_,by omega,(hr d'[i]).2,(hr d'[j]).2⟩
  .rw[qj]
   intro i j hi hj ur;exact⟨i,j,by omega,cO hi,cO hj⟩
 have uQ:S.flatMap AV.cells=d'.toList.flatMap λi=>(B.cells.drop (off+kG i*k)).take k:=by
  rw[<-hE,List.flatMap_map]
 have hck:∀i,((B.cells.drop (off+kG i*k)).take k).length=k:=λi=>by
  have:=Av i;simp;omega
 have JI:(S.flatMap AV.cells).length=len*k:=by
  rw[uQ,Ox λi _=>hck i];simp[p1]
 have JY:(flatK enc k d').size=len*k:=by simp[flatK,p1]
 obtain⟨g1,g2⟩:=uN (vals:=(flatK enc k d').toList.map id) (new:=S.flatMap AV.cells) (off:=off) hg fH iV (mM (u:=0) hb) hH (by omega) (by rw[JI];simp[JY]) (λt q ht=>by
  have J3:t<len*k:=by rw[<-JI];exact(dq.1 ht).1
  have EH:=Nat.mod_lt t ru;have JX:t/k<len:=(sK ru).2 J3;have OC:t/k<d'.toList.length:=by simp[p1,JX]
  rw[uQ,Oy (λi _=>hck i) ru (by simpa[p1]using J3),cO OC]at ht
  simp only[Option.bind_some]at ht;obtain⟨x,y,h1,h2,h3,h4,h5⟩:=tq (d'.toList[t/k]) (t%k) EH;have hx:x=q:=by
   rw[sU,ab EH,kz,h1]at ht;exact Option.some.inj ht
  subst hx;refine⟨y,?_,h3,h4⟩;rw[fS,iu];simp only[flatK,Array.getElem?_map,p1];rw[Array.getElem?_range,ab J3];simp only[l6,id,bJ];rw[getElem!_pos d' (t/k) (by simpa using OC)]
  rw[getElem!_def];simp only[Array.getElem_toList]at h5;rw[h5])
 obtain⟨pl,_⟩:=qU B.cells (S.flatMap AV.cells) off (by omega)
 have iy:=oR (ids:=ids) (I:=I) (id' :=ids b) (B' :=⟨B.k,putAt B.cells off (S.flatMap AV.cells),B.st⟩) hb pC;have nE:(λq=>if q=b then ids b else ids q)=ids:=by funext q;split<;>simp_all
 rw[nE]at iy;obtain⟨f1,f2⟩:=Good.shrink (C2:=ad (ar σ b ⟨B.k,putAt B.cells off (S.flatMap AV.cells),B.st⟩) ids I) g1 rfl (λb1 u1 e1 h1=>by
  have:=iy b1 u1 e1 h1;simp only[pl]at this;exact this) (λb1 u1 h1=>oS (ids:=ids) (I:=I) hb (by show B.cells.length<=(putAt B.cells off (S.flatMap AV.cells)).length;rw[pl];exact aT _) b1 u1 h1)
 obtain⟨r1,r2⟩:=aex (enc:=id) (off:=off) (n:=n) (os:=os) (d' :=flatK enc k d') hH (by rw[JY];omega)
 have kW:∀j,j<(w.setRow (ids b) (c.toList.take off++(flatK enc k d').toList.map id++c.toList.drop (off+((flatK enc k d').toList.map id).length)).toArray).heap.size->(sortWorldK enc k w (ids b) off n d' os).heap[j]? = (w.setRow (ids b) (c.toList.take off++(flatK enc k d').toList.map id++c.toList.drop (off+((flatK enc k d').toList.map id).length)).toArray).heap[j]?:=λj hj=>r2 j (by rwa [mJ]at hj)
 obtain⟨q1,q2⟩:=f1.nq r1 kW I (λ_ h=>h) (λj hj=>sH (f1.I j hj) r1) (λj hj=>.inl hj) rfl ⟨rfl,by show w.drawn<=w.drawn+n;omega⟩ rfl
 exact⟨_,ids,I,rfl,q1,by unfold VR;exact⟨[],rfl,rfl⟩,(g2.trans f2).trans q2⟩
theorem aeA(L:SlLaysF0.n6 P ρ){f:Nat}(G:ρ.f 6=f) (s:bu P (ρ.t 24) (some k)=true) (H:cz P f=true):et P f (iM k):=by
 subst G;refine⟨H,λce x y args σ r J i ids I w vs A q=>?_⟩;have d:∀(l:Value) (p:Option Addr) (cap:Nat),Calls P (ρ.f 6) #[.slice p 0 cap,l] w λe w' =>∃v j I', e = .returned v/\Good (ad σ j I') w' /\VR (ad σ j I') w'.heap (.bF []) v/\Step (ad σ ids I) w (ad σ j I') w' :=λl p cap=>by
  refine(AnyF.slices_SortFunc_none (P:=P) (ρ:=ρ) L p cap l w).mono ?_;rintro e w' ⟨rfl,rfl⟩;exact⟨_,ids,I,rfl,A,by unfold VR;exact⟨[],rfl,rfl⟩,Step.refl _ _⟩
 unfold iM at i;split at i
 .simp only[bJ,Prod.mk.injEq]at i
  obtain⟨rfl,rfl⟩:=i;obtain⟨z,C,rfl,h,l,D,rfl,n,rfl⟩:=q;have h:z = .slice none 0 0:=h;subst h;exact d l none 0
 .simp only[bJ,Prod.mk.injEq]at i
  obtain⟨rfl,rfl⟩:=i;obtain⟨z,C,rfl,h,l,D,rfl,n,rfl⟩:=q;unfold VR at h;rcases h.2 with⟨_,a,rfl,_⟩|⟨ak,off,cap,st,c,el,T,rfl,_⟩
  .exact d l a 0
  .exact d l _ cap
 .rename_i b u off len g E
  split at i
  .rename_i B K
   split at i
   .rename_i o
    simp only[bJ,Prod.mk.injEq]at i;obtain⟨rfl,rfl⟩:=i;have o:len=0:=by simpa using o
    subst o;obtain⟨z,C,rfl,h,l,D,rfl,n,rfl⟩:=q;unfold VR at h;obtain⟨⟨p,cap,rfl,_⟩,_⟩:=h;exact d l p cap
   .rename_i o
    split at i
    .rename_i F
     simp only[aA,dY]at F;obtain⟨⟨⟨⟨⟨M,N⟩,O⟩,Q⟩,R⟩,S⟩:=F;simp only[bJ,Prod.mk.injEq]at i;obtain⟨rfl,rfl⟩:=i;have m:B.st = .live:=by revert N;cases B.st<;>simp[eM.isLive]
     exact aey L s x y K m (zL M) O (Nat.pos_of_ne_zero (by simpa using o)) Q R S A q
    .simp at i
  .simp at i
 .simp at i
end Ab
