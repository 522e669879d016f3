/- slices.SortFunc, at structs with different first cells. Condition: the library's own text, as the kit's contract has walked it. -/
import Derived.Test.YtdenhmniigikcaaGreatAbSortS
set_option linter.all false
namespace Ab
open Go Go.Proofs Go.Shelf Go.Sort
variable{P:Program}
section
variable{α:Type} [Inhabited α]{enc:α->Value}
theorem ahf{w:World}{id off m:Nat}{dk:Array α}{os:Array Obj}:(sortWorld enc w id off m dk os).heap.size=w.heap.size+os.size:=by
 simp[sortWorld,grow,putRow,mapBlock,«Sort».ahead]
theorem ahg{w:World}{id off m:Nat}{dk:Array α}{os:Array Obj}{j:Nat}(h:j<w.heap.size) (b8:j ≠ id):(sortWorld enc w id off m dk os).heap[j]? = w.heap[j]?:=by
 simp only[sortWorld,grow,putRow,mapBlock,«Sort».ahead];rw[kV (by simpa using h),sx,ab (by omega)]
end
theorem QG{r:Nat->Nat}{cf:Nat->Nat->Int}(h:∀i j,cf i j<0↔r i<r j):SWO (ltOf cf) where
 irrefl x:=by simp only[ltOf,wm,h];omega
 trans x y z h1 h2:=by simp only[ltOf,eR,h]at *;omega
 ntrans x y z h1 h2:=by simp only[ltOf,wm,h]at *;omega
theorem QH{α β:Type}{f:α->List β}{k:Nat}:∀{l:List α},(∀x∈l,(f x).length=k)->(l.flatMap f).length=l.length*k
 | [],_=>by simp
 |x::l,h=>by
  have ih:=QH (f:=f) (k:=k) (l:=l) λy hy=>h y (by simp[hy])
  rw[jG,bz,ih,h x (by simp),cy,fC,Nat.one_mul,Nat.add_comm]
theorem QI{α β:Type}{f:α->List β}{k:Nat}:∀{l:List α}{t:Nat},(∀x∈l,(f x).length=k)->0<k->t<l.length*k->(l.flatMap f)[t]? = (l[t/k]?).bind λx=>(f x)[t%k]?
 | [],t,_,_,h=>by simp at h
 |x::l,t,h,hk,ht=>by
  have hx:=h x (by simp)
  rw[jG]
  by_cases r6:t<k
  ·rw[fw (by omega),Nat.div_eq_of_lt r6,Nat.mod_eq_of_lt r6];rfl
  ·have ih:=QI (f:=f) (k:=k) (l:=l) (t:=t-k) (λy hy=>h y (by simp[hy])) hk (by rw[cy,fC]at ht;omega)
   rw[gv (by omega),hx,ih]
   obtain⟨u,rfl⟩:∃u,t=u+k:=⟨t-k,by omega⟩
   rw[Nat.add_sub_cancel,Nat.add_div_right u hk,Nat.add_mod_right]
   rfl
theorem ahh{α:Type} [Inhabited α]{enc:α->Value}{w:World}{id off n:Nat}{d' : Array α}{os:Array Obj}{c:Array Value}{el:TypeId}(hH:w.heap[id]? = some (.cells c el (0,0))) (fE:off+d'.size<=c.size) :
  (w.setRow id (c.toList.take off++d'.toList.map enc++c.toList.drop (off+(d'.toList.map enc).length)).toArray).heap.size<=(sortWorld enc w id off n d' os).heap.size/\
  ∀k,k<w.heap.size->(sortWorld enc w id off n d' os).heap[k]? = (w.setRow id (c.toList.take off++d'.toList.map enc++c.toList.drop (off+(d'.toList.map enc).length)).toArray).heap[k]?:=by
 refine⟨by rw[nH,ahf];omega,λk hk=>?_⟩
 by_cases e:k=id
 ·subst e
  rw[setRow_heap w k c _ el (0,0) hH];simp only[sortWorld,grow,putRow,mapBlock,«Sort».ahead];rw[kV (by simpa using hk),sx,ae rfl,hH]
  simp only[lK,onCells,bJ,kH,and_true];apply Array.ext_getElem?;intro i;have N7:∀L:List Value,L.toArray[i]? = L[i]?:=λL=>by simp
  rw[N7 (c.toList.take off++d'.toList.map enc++c.toList.drop (off+(d'.toList.map enc).length))];simp only[putCells,Array.getElem?_mapIdx,dR,nK]
  by_cases h1:i<off
  ·rw[iW,fw (by simp;omega),uv,ae h1,iV]
   cases hc:c[i]? with
   |none=>rfl
   |some v=>simp;omega
  ·by_cases h2:i<off+d'.size
   ·rw[fw (by simp;omega),gv (by simp;omega),iv]
    have aK:i<c.size:=by omega
    rw[jl aK];simp only[mB,nK,lK];rw[ae (by omega),show min off c.size=off by omega,iV,jl (by omega)]
    simp[getElem!_def,jl (show i-off<d'.size by omega)]
   ·rw[gv (by simp;omega),lH,iV]
    simp only[bz,mB,nK,dR];rw[show off+d'.size+(i-(min off c.size+d'.size))=i by omega]
    cases hc:c[i]? with
    |none=>rfl
    |some v=>simp;omega
 ·rw[ahg hk e,jY w id _ e]
theorem ahi{ρ:Ren}(L:SlLaysF0.n6 P ρ){k:Nat}(W8:bt P (ρ.t 24) (some k)=true){ce:CE}(dM:cz P ce) (jz:dZ P ce){b u off len g:Nat}{aI:List AV}{σ:List ag}{B:ag}(hu:upto σ b u=some B) (dP:B.st = .live) (hk:B.k=some k) (j5:0<k) (hlen:0<len) (fE:off+len*k<=B.cells.length) (fS:B.cells.length<=dG)
  (pO:jq ce g aI (ki (chunk (some k) len (B.cells.drop off)))=true) {ids:Nat->Nat} {I:Nat->Prop} {w:World} {vs:List Value} (hg:Good (af σ ids I) w) (hv:cm (af σ ids I) w.heap [.sl b u off len,.func g aI] vs) :
  Calls P (ρ.f 6) vs.toArray w λe w' =>∃v aJ I', e = .returned v/\Good (af (az σ b ⟨B.k,putAt B.cells off ((ki (chunk (some k) len (B.cells.drop off))).flatMap AV.cells),B.st⟩) aJ I') w' /\VR (af (az σ b ⟨B.k,putAt B.cells off ((ki (chunk (some k) len (B.cells.drop off))).flatMap AV.cells),B.st⟩) aJ I') w'.heap (.bS []) v/\Step (af σ ids I) w (af (az σ b ⟨B.k,putAt B.cells off ((ki (chunk (some k) len (B.cells.drop off))).flatMap AV.cells),B.st⟩) aJ I') w' :=by
 obtain⟨hb,oJ,jm⟩:=rj hu;have bO:=lF ids I hu;subst oJ;obtain⟨v1,s1,rfl,dQ,v2,s2,rfl,nN,rfl⟩:=hv;unfold VR at dQ nN;have dQ:=dQ.2.2 B _ bO;rw[dP]at dQ;obtain⟨c,el,o,cap,hH,e1,mE,MP,jO⟩:=dQ;rw[mE (by omega)]at e1
 obtain⟨cb,e2,ox⟩:=nN;obtain⟨WV,c', mi, r7, hle,j8⟩:=hg.live b _ B _ bO dP;rw[hH]at r7;simp only[bJ,kH]at r7;obtain⟨rfl,rfl,_⟩:=r7;generalize hD:chunk (some k) len (B.cells.drop off)=D at pO ⊢;have hDl:D.length=len:=by rw[<-hD,N6]
 have sV:∀i,i<len->D[i]? = some (.agg ((B.cells.drop (off+i*k)).take k)):=λi hi=>by
  rw[<-hD,N5 len _ (by simp;omega) i hi,List.drop_drop]
 let lh:Nat->Nat:=λi=>min i (len-1)
 have ql:∀i,lh i<len:=λi=>by show min i (len-1)<len;omega
 have Cn:∀i,off+lh i*k+k<=B.cells.length:=λi=>by
  have:=jT k (show lh i+1<=len from ql i);rw[fC]at this;omega
 let av:Nat->AV:=λi=>.agg ((B.cells.drop (off+lh i*k)).take k)
 let enc:Nat->List Value:=λi=>(c.toList.drop (off+lh i*k)).take k
 have hek:∀i,(enc i).length=k:=λi=>by
  have:=Cn i;show((c.toList.drop (off+lh i*k)).take k).length=k;simp;omega
 have gF:∀i (j:Nat),j<k->∃x y,B.cells[off+lh i*k+j]? = some x/\c[off+lh i*k+j]? = some y/\VR (af σ ids I) w.heap x y/\y.oneCell' = true/\(enc i)[j]? = some y:=λi j hj=>by
  have:=Cn i;have hx:=de (show off+lh i*k+j<B.cells.length by omega)
  obtain⟨y,k1,k2,k3⟩:=j8 _ _ hx;refine⟨_,y,hx,k1,k2,k3,?_⟩;show((c.toList.drop (off+lh i*k)).take k)[j]? = some y;rw[uv,ae hj,lH,iV];exact k1
 have kI:∀i,∀v∈enc i,v.oneCell' = true:=λi v hv=>by
  obtain⟨j,hj⟩:=sH.1 hv;have hjk:j<k:=by rw[<-hek i];exact(cV.1 hj).1
  obtain⟨_,y,_,_,_,h3,h4⟩:=gF i j hjk;rw[hj]at h4;cases h4;exact h3
 have pM:∀i (n p:Nat),p+n=k->cm (af σ ids I) w.heap ((B.cells.drop (off+lh i*k+p)).take n) ((c.toList.drop (off+lh i*k+p)).take n):=λi n=>by
  induction n with
  |zero=>intro p _;simp[cm]
  |succ n ih=>
   intro p hp;have:=Cn i;obtain⟨x,y,h1,h2,h3,_,_⟩:=gF i p (by omega)
   have l1:off+lh i*k+p<B.cells.length:=by omega
   have l2:off+lh i*k+p<c.toList.length:=by simp;omega
   rw[rn l1,rn l2,List.take_succ_cons,List.take_succ_cons];refine⟨_,_,rfl,?_,ih (p+1) (by omega)⟩
   rw[de l1]at h1;rw[<-Array.getElem?_toList,de l2]at h2;cases h1;cases h2;exact h3
 have tZ:∀i,VR (af σ ids I) w.heap (av i) (.agg (enc i).toArray):=λi=>by
  unfold VR;exact⟨enc i,rfl,pM i k 0 (by omega),kI i⟩
 have QJ:∀i,D[lh i]? = some (av i):=λi=>sV _ (ql i);have hpS:=Nt D;generalize hS:ki D=S at *;have hSl:S.length=len:=by rw[hpS.length_eq,hDl]
 have hSn:S.Nodup:=by
  rw[List.nodup_iff_pairwise_ne,rC];intro a b ha hb wL e;obtain⟨q,q1,q2⟩:=BQ pO (de ha) (de hb);obtain⟨q', q3,q4⟩:=BQ pO (de hb) (de ha);rw[e]at q1 q3;rw[q1]at q3;simp only[bJ]at q3;subst q3;have:=q2.2 wL;have:=q4.1 this;omega
 have hex:∀i,∃j,j<len/\S[j]? = some (av i):=λi=>by
  obtain⟨j,hj⟩:=sH.1 (hpS.mem_iff.2 (sH.2 ⟨_,QJ i⟩));exact⟨j,by rw[<-hSl];exact(cV.1 hj).1,hj⟩
 obtain⟨r,hr⟩:=Classical.axiomOfChoice hex;have zp:∀i j,∃q,iK ce g aI (av i) (av j)=some q/\(q<0↔r i<r j):=λi j=>BQ pO (hr i).2 (hr j).2
 let cf:Nat->Nat->Int:=λi j=>(iK ce g aI (av i) (av j)).getD 0
 have zl:∀i j,iK ce g aI (av i) (av j)=some (cf i j):=λi j=>by
  obtain⟨q,h1,_⟩:=zp i j;show _=some ((iK ce g aI (av i) (av j)).getD 0);rw[h1];rfl
 have LA:∀i j,cf i j<0↔r i<r j:=λi j=>by
  obtain⟨q,h1,h2⟩:=zp i j;have:cf i j=q:=by show(iK ce g aI (av i) (av j)).getD 0=q;rw[h1];rfl
  rw[this];exact h2
 have eg:∀args w,(callFunc g args).run P w = .ok (.enter g args) w:=by
  have h:=zl 0 0;unfold iK at h;have hp:∃x,je ce g (av 0::av 0::aI)=some x:=by
   split at h
   ·rename_i c ga; exact⟨_,ga⟩
   ·simp at h
  obtain⟨x,hp⟩:=hp;unfold je at hp;split at hp
  case isFalse=>simp at hp
  cases hc:ce g ((av 0::av 0::aI).map wk) []with
  |none=>rw[hc]at hp;simp at hp
  |some r=>exact yi (jz g _ _ r hc)
 have sW:=(jh.1 hH).1;have QK:∀t,t<len*k->(flatK enc k (Array.range len))[t]? = c[off+t]?:=λt ht=>by
  have r6:=Nat.mod_lt t j5;have LL:t/k<len:=(Nat.div_lt_iff_lt_mul j5).2 ht;have hdm:=Nat.div_add_mod t k;have Nu:lh (t/k)=t/k:=by show min (t/k) (len-1)=t/k;omega
  obtain⟨_,y,_,h2,_,_,h5⟩:=gF (t/k) (t%k) r6;rw[Nu]at h2;have:off+t/k*k+t%k=off+t:=by rw[Nat.mul_comm];omega
  rw[this]at h2;rw[h2];simp only[flatK,Array.getElem?_map,sM];rw[Array.getElem?_range,ae ht];simp only[lK,bJ];have hr:(Array.range len)[t/k]! = t/k:=by rw[getElem!_def,Array.getElem?_range,ae LL]
  rw[hr,getElem!_def,h5]
 have ahj:(flatK enc k (Array.range len)).size=len*k:=by simp[flatK]
 have o8:HoldsK enc k w (ids b) off (Array.range len):=λj hj=>by
  rw[ahj]at hj;have h1:=QK j hj;have aK:off+j<c.size:=by omega
  refine⟨?_,?_⟩
  ·simp only[World.cell?,hH]
   rw[getElem!_def,h1,jl aK];simp[aK]
  ·simp[World.frozen?,hH]
 have key:=AnyQ.slices_SortFunc L k (λw=>by have:=rk W8 w;exact this) (λw=>by have:=iT (kF W8) w;exact this) enc hek kI cf (QG LA) g cb.toArray (ids b) off cap (Array.range len) w eg
  (aau dM hg ox WV tZ zl) o8 sW (by
   have:len*1<=len*k:=Nat.mul_le_mul_left len j5;simp[dG]at fS ⊢;omega)
 simp only[sM]at key;rw[e1,e2];refine key.mono ?_;rintro e w' ⟨rfl,d', n,os,hp,hs,rfl⟩;obtain⟨p1,_,p3⟩:=hp;simp only[sM]at p1 p3;have zm:d'.toList.Perm (List.range len):=by
  have e3:(d'.extract 0 len).toList=d'.toList:=by rw[<-p1];simp
  have e4:((Array.range len).extract 0 len).toList=List.range len:=by
   have:(Array.range len).extract 0 len=Array.range len:=by
    have:=Array.extract_size (xs:=Array.range len)
    rwa [sM]at this
   rw[this];simp
  rw[e3,e4]at p3;exact p3
 have zn:(List.range len).map av=D:=by
  apply List.ext_getElem? λi=>?_;rw[iv]
  by_cases hi:i<len
  ·rw[List.getElem?_range hi]
   have:=QJ i;rw[show lh i=i by show min i (len-1)=i;omega]at this
   rw[this];rfl
  ·rw[jH (by simp;omega),jH (by omega)];rfl
 have hE:d'.toList.map av=S:=by
  refine List.Perm.eq_of_pairwise (le:=λx y=>∃a b:Nat,a<=b/\S[a]? = some x/\S[b]? = some y) (λx y _ _ h k=>?_) ?_ ?_ (((zm.map av).trans (by rw[zn])).trans hpS.symm)
  ·obtain⟨a,b,h1,h2,h3⟩:=h
   obtain⟨a', b', k1,k2,k3⟩:=k;obtain⟨l1,r8⟩:=cV.1 h2;obtain⟨l2,h3'⟩:=cV.1 h3;obtain⟨l3,k2'⟩:=cV.1 k2;obtain⟨l4,k3'⟩:=cV.1 k3;have e1:a=b' :=(List.getElem_inj hSn).1 (r8.trans k3'.symm);have e2:b=a' :=(List.getElem_inj hSn).1 (h3'.trans k2'.symm);have:a=b:=by omega
   subst this;rw[<-r8, <-h3']
  ·rw[List.pairwise_map,rC]
   intro i j hi hj qm;simp only[nK]at hi hj;have:=hs i j (Nat.zero_le _) qm (by omega)
   rw[getElem!_pos d' j hj,getElem!_pos d' i hi]at this;simp only[ltOf,wm,LA]at this;simp only[Array.getElem_toList];exact⟨_,_,by omega,(hr d'[i]).2,(hr d'[j]).2⟩
  ·rw[rC]
   intro i j hi hj qm;exact⟨i,j,by omega,de hi,de hj⟩
 have nE:S.flatMap AV.cells=d'.toList.flatMap λi=>(B.cells.drop (off+lh i*k)).take k:=by
  rw[<-hE,List.flatMap_map]
 have hck:∀i,((B.cells.drop (off+lh i*k)).take k).length=k:=λi=>by
  have:=Cn i;simp;omega
 have ss:(S.flatMap AV.cells).length=len*k:=by
  rw[nE,QH λi _=>hck i];simp[p1]
 have A7:(flatK enc k d').size=len*k:=by simp[flatK,p1]
 obtain⟨g1,g2⟩:=ui (vals:=(flatK enc k d').toList.map id) (new:=S.flatMap AV.cells) (off:=off) hg bO dP (mD (u:=0) hb) hH (by omega) (by rw[ss];simp[A7]) (λt q ht=>by
  have LU:t<len*k:=by rw[<-ss];exact(cV.1 ht).1
  have r6:=Nat.mod_lt t j5;have LL:t/k<len:=(Nat.div_lt_iff_lt_mul j5).2 LU;have IM:t/k<d'.toList.length:=by simp[p1,LL]
  rw[nE,QI (λi _=>hck i) j5 (by simpa[p1]using LU),de IM]at ht
  simp only[Option.bind_some]at ht;obtain⟨x,y,h1,h2,h3,h4,h5⟩:=gF (d'.toList[t/k]) (t%k) r6;have hx:x=q:=by
   rw[uv,ae r6,lH,h1]at ht;exact Option.some.inj ht
  subst hx;refine⟨y,?_,h3,h4⟩;rw[iv,iV];simp only[flatK,Array.getElem?_map,p1];rw[Array.getElem?_range,ae LU];simp only[lK,id,bJ];rw[getElem!_pos d' (t/k) (by simpa using IM)]
  rw[getElem!_def];simp only[Array.getElem_toList]at h5;rw[h5])
 obtain⟨pl,_⟩:=rh B.cells (S.flatMap AV.cells) off (by omega)
 have eS:=oM (ids:=ids) (I:=I) (id' :=ids b) (B' :=⟨B.k,putAt B.cells off (S.flatMap AV.cells),B.st⟩) hb jm;have j9:(λq=>if q=b then ids b else ids q)=ids:=by funext q;split<;>simp_all
 rw[j9]at eS;obtain⟨f1,f2⟩:=Good.shrink (C2:=af (az σ b ⟨B.k,putAt B.cells off (S.flatMap AV.cells),B.st⟩) ids I) g1 rfl (λb1 u1 e1 h1=>by
  have:=eS b1 u1 e1 h1;simp only[pl]at this;exact this) (λb1 u1 h1=>oN (ids:=ids) (I:=I) hb (by show B.cells.length<=(putAt B.cells off (S.flatMap AV.cells)).length;rw[pl];exact bA _) b1 u1 h1)
 obtain⟨r1,r2⟩:=ahh (enc:=id) (off:=off) (n:=n) (os:=os) (d' :=flatK enc k d') hH (by rw[A7];omega)
 have du:∀j,j<(w.setRow (ids b) (c.toList.take off++(flatK enc k d').toList.map id++c.toList.drop (off+((flatK enc k d').toList.map id).length)).toArray).heap.size->(sortWorldK enc k w (ids b) off n d' os).heap[j]? = (w.setRow (ids b) (c.toList.take off++(flatK enc k d').toList.map id++c.toList.drop (off+((flatK enc k d').toList.map id).length)).toArray).heap[j]?:=λj hj=>r2 j (by rwa [nH]at hj)
 obtain⟨q1,q2⟩:=f1.oB r1 du I (λ_ h=>h) (λj hj=>Nat.lt_of_lt_of_le (f1.I j hj) r1) (λj hj=>.inl hj) rfl ⟨rfl,by show w.drawn<=w.drawn+n;omega⟩ rfl
 exact⟨_,ids,I,rfl,q1,by unfold VR;exact⟨[],rfl,rfl⟩,(g2.trans f2).trans q2⟩
theorem ahk{ρ:Ren}(L:SlLaysF0.n6 P ρ){f k:Nat}(hf:ρ.f 6=f) (W8:bt P (ρ.t 24) (some k)=true) (hb:cM P f=true):eT P f (jr k):=by
 subst hf;refine⟨hb,λce dM jz args σ r bp hp ids I w vs hg hv=>?_⟩;have fu:∀(v2:Value) (p:Option Addr) (cap:Nat),Calls P (ρ.f 6) #[.slice p 0 cap,v2] w λe w' =>∃v aJ I', e = .returned v/\Good (af σ aJ I') w' /\VR (af σ aJ I') w'.heap (.bS []) v/\Step (af σ ids I) w (af σ aJ I') w' :=λv2 p cap=>by
  refine(AnyF.slices_SortFunc_none (P:=P) (ρ:=ρ) L p cap v2 w).mono ?_;rintro e w' ⟨rfl,rfl⟩;exact⟨_,ids,I,rfl,hg,by unfold VR;exact⟨[],rfl,rfl⟩,Step.refl _ _⟩
 unfold jr at hp;split at hp
 ·simp only[bJ,Prod.mk.injEq]at hp
  obtain⟨rfl,rfl⟩:=hp;obtain⟨v1,s1,rfl,dQ,v2,s2,rfl,nN,rfl⟩:=hv;have dQ:v1 = .slice none 0 0:=dQ;subst dQ;exact fu v2 none 0
 ·simp only[bJ,Prod.mk.injEq]at hp
  obtain⟨rfl,rfl⟩:=hp;obtain⟨v1,s1,rfl,dQ,v2,s2,rfl,nN,rfl⟩:=hv;unfold VR at dQ;rcases dQ.2 with⟨_,a,rfl,_⟩|⟨al,off,cap,st,c,el,fz,rfl,_⟩
  ·exact fu v2 a 0
  ·exact fu v2 _ cap
 ·rename_i b u off len g aI
  split at hp
  ·rename_i B hu
   split at hp
   ·rename_i h0
    simp only[bJ,Prod.mk.injEq]at hp;obtain⟨rfl,rfl⟩:=hp;have h0:len=0:=by simpa using h0
    subst h0;obtain⟨v1,s1,rfl,dQ,v2,s2,rfl,nN,rfl⟩:=hv;unfold VR at dQ;obtain⟨⟨p,cap,rfl,_⟩,_⟩:=dQ;exact fu v2 p cap
   ·rename_i h0
    split at hp
    ·rename_i hc
     simp only[aD,eR]at hc;obtain⟨⟨⟨⟨⟨c1,c2⟩,c3⟩,c4⟩,c5⟩,c6⟩:=hc;simp only[bJ,Prod.mk.injEq]at hp;obtain⟨rfl,rfl⟩:=hp;have dP:B.st = .live:=by revert c2;cases B.st<;>simp[eo.isLive]
     exact ahi L W8 dM jz hu dP (BG c1) c3 (Nat.pos_of_ne_zero (by simpa using h0)) c4 c5 c6 hg hv
    ·simp at hp
  ·simp at hp
 ·simp at hp
end Ab
