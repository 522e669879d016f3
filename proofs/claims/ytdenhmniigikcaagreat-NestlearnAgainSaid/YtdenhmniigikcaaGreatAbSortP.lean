/- slices.SortFunc, at structs with different first cells. Condition: the library's own text, as the kit's contract has walked it. -/
import Derived.Test.YtdenhmniigikcaaGreatAbSortS
set_option linter.all false
namespace Ab
open Go Go.Proofs Go.Shelf Go.Sort
variable{P:Program}
section
variable{α:Type} [Inhabited α]{enc:α->Value}
theorem agH{w:World}{id off m:Nat}{dk:Array α}{os:Array Obj}:(sortWorld enc w id off m dk os).heap.size=w.heap.size+os.size:=by
 simp[sortWorld,grow,putRow,mapBlock,«Sort».ahead]
theorem agI{w:World}{id off m:Nat}{dk:Array α}{os:Array Obj}{j:Nat}(h:j<w.heap.size) (bY:j ≠ id):(sortWorld enc w id off m dk os).heap[j]? = w.heap[j]?:=by
 simp only[sortWorld,grow,putRow,mapBlock,«Sort».ahead];rw[kS (by simpa using h),su,aa (by omega)]
end
theorem P3{r:Nat->Nat}{cf:Nat->Nat->Int}(h:∀i j,cf i j<0↔r i<r j):SWO (ltOf cf) where
 irrefl x:=by simp only[ltOf,wg,h];omega
 trans x y z h1 h2:=by simp only[ltOf,eP,h]at *;omega
 ntrans x y z h1 h2:=by simp only[ltOf,wg,h]at *;omega
theorem P4{α β:Type}{f:α->List β}{k:Nat}:∀{l:List α},(∀x∈l,(f x).length=k)->(l.flatMap f).length=l.length*k
 | [],_=>by simp
 |x::l,h=>by
  have ih:=P4 (f:=f) (k:=k) (l:=l) λy hy=>h y (by simp[hy])
  rw[jD,bu,ih,h x (by simp),cw,fx,Nat.one_mul,Nat.add_comm]
theorem P5{α β:Type}{f:α->List β}{k:Nat}:∀{l:List α}{t:Nat},(∀x∈l,(f x).length=k)->0<k->t<l.length*k->(l.flatMap f)[t]? = (l[t/k]?).bind λx=>(f x)[t%k]?
 | [],t,_,_,h=>by simp at h
 |x::l,t,h,hk,ht=>by
  have hx:=h x (by simp)
  rw[jD]
  by_cases rY:t<k
  ·rw[ft (by omega),Nat.div_eq_of_lt rY,Nat.mod_eq_of_lt rY];rfl
  ·have ih:=P5 (f:=f) (k:=k) (l:=l) (t:=t-k) (λy hy=>h y (by simp[hy])) hk (by rw[cw,fx]at ht;omega)
   rw[gm (by omega),hx,ih]
   obtain⟨u,rfl⟩:∃u,t=u+k:=⟨t-k,by omega⟩
   rw[Nat.add_sub_cancel,Nat.add_div_right u hk,Nat.add_mod_right]
   rfl
theorem agJ{α:Type} [Inhabited α]{enc:α->Value}{w:World}{id off n:Nat}{d' : Array α}{os:Array Obj}{c:Array Value}{el:TypeId}(hH:w.heap[id]? = some (.cells c el (0,0))) (fA:off+d'.size<=c.size) :
  (w.setRow id (c.toList.take off++d'.toList.map enc++c.toList.drop (off+(d'.toList.map enc).length)).toArray).heap.size<=(sortWorld enc w id off n d' os).heap.size/\
  ∀k,k<w.heap.size->(sortWorld enc w id off n d' os).heap[k]? = (w.setRow id (c.toList.take off++d'.toList.map enc++c.toList.drop (off+(d'.toList.map enc).length)).toArray).heap[k]?:=by
 refine⟨by rw[nw,agH];omega,λk hk=>?_⟩
 by_cases e:k=id
 ·subst e
  rw[setRow_heap w k c _ el (0,0) hH];simp only[sortWorld,grow,putRow,mapBlock,«Sort».ahead];rw[kS (by simpa using hk),su,ab rfl,hH]
  simp only[lH,onCells,bF,kF,and_true];apply Array.ext_getElem?;intro i;have Nt:∀L:List Value,L.toArray[i]? = L[i]?:=λL=>by simp
  rw[Nt (c.toList.take off++d'.toList.map enc++c.toList.drop (off+(d'.toList.map enc).length))];simp only[putCells,Array.getElem?_mapIdx,dR,nD]
  by_cases h1:i<off
  ·rw[iS,ft (by simp;omega),uo,ab h1,iR]
   cases hc:c[i]? with
   |none=>rfl
   |some v=>simp;omega
  ·by_cases h2:i<off+d'.size
   ·rw[ft (by simp;omega),gm (by simp;omega),ie]
    have aK:i<c.size:=by omega
    rw[jg aK];simp only[my,nD,lH];rw[ab (by omega),show min off c.size=off by omega,iR,jg (by omega)]
    simp[getElem!_def,jg (show i-off<d'.size by omega)]
   ·rw[gm (by simp;omega),lE,iR]
    simp only[bu,my,nD,dR];rw[show off+d'.size+(i-(min off c.size+d'.size))=i by omega]
    cases hc:c[i]? with
    |none=>rfl
    |some v=>simp;omega
 ·rw[agI hk e,jW w id _ e]
theorem agK{ρ:Ren}(L:SlLaysF0.n6 P ρ){k:Nat}(Ws:bt P (ρ.t 24) (some k)=true){ce:CE}(dM:cx P ce) (jw:dY P ce){b u off len g:Nat}{aI:List AV}{σ:List ag}{B:ag}(hu:upto σ b u=some B) (dP:B.st = .live) (hk:B.k=some k) (jY:0<k) (hlen:0<len) (fA:off+len*k<=B.cells.length) (fP:B.cells.length<=dE)
  (pL:jl ce g aI (kg (chunk (some k) len (B.cells.drop off)))=true) {ids:Nat->Nat} {I:Nat->Prop} {w:World} {vs:List Value} (hg:Good (af σ ids I) w) (hv:cd (af σ ids I) w.heap [.sl b u off len,.func g aI] vs) :
  Calls P (ρ.f 6) vs.toArray w λe w' =>∃v aJ I', e = .returned v/\Good (af (ay σ b ⟨B.k,putAt B.cells off ((kg (chunk (some k) len (B.cells.drop off))).flatMap AV.cells),B.st⟩) aJ I') w' /\VR (af (ay σ b ⟨B.k,putAt B.cells off ((kg (chunk (some k) len (B.cells.drop off))).flatMap AV.cells),B.st⟩) aJ I') w'.heap (.bQ []) v/\Step (af σ ids I) w (af (ay σ b ⟨B.k,putAt B.cells off ((kg (chunk (some k) len (B.cells.drop off))).flatMap AV.cells),B.st⟩) aJ I') w' :=by
 obtain⟨hb,oE,jh⟩:=q9 hu;have bH:=lC ids I hu;subst oE;obtain⟨v1,s1,rfl,dQ,v2,s2,rfl,nG,rfl⟩:=hv;unfold VR at dQ nG;have dQ:=dQ.2.2 B _ bH;rw[dP]at dQ;obtain⟨c,el,o,cap,hH,e1,mB,Mb,jM⟩:=dQ;rw[mB (by omega)]at e1
 obtain⟨cb,e2,oh⟩:=nG;obtain⟨Wf,c', mg, rZ, hle,j6⟩:=hg.live b _ B _ bH dP;rw[hH]at rZ;simp only[bF,kF]at rZ;obtain⟨rfl,rfl,_⟩:=rZ;generalize hD:chunk (some k) len (B.cells.drop off)=D at pL ⊢;have hDl:D.length=len:=by rw[<-hD,Ns]
 have sS:∀i,i<len->D[i]? = some (.agg ((B.cells.drop (off+i*k)).take k)):=λi hi=>by
  rw[<-hD,Nr len _ (by simp;omega) i hi,List.drop_drop]
 let lf:Nat->Nat:=λi=>min i (len-1)
 have qj:∀i,lf i<len:=λi=>by show min i (len-1)<len;omega
 have Ca:∀i,off+lf i*k+k<=B.cells.length:=λi=>by
  have:=jR k (show lf i+1<=len from qj i);rw[fx]at this;omega
 let av:Nat->AV:=λi=>.agg ((B.cells.drop (off+lf i*k)).take k)
 let enc:Nat->List Value:=λi=>(c.toList.drop (off+lf i*k)).take k
 have hek:∀i,(enc i).length=k:=λi=>by
  have:=Ca i;show((c.toList.drop (off+lf i*k)).take k).length=k;simp;omega
 have gC:∀i (j:Nat),j<k->∃x y,B.cells[off+lf i*k+j]? = some x/\c[off+lf i*k+j]? = some y/\VR (af σ ids I) w.heap x y/\y.oneCell' = true/\(enc i)[j]? = some y:=λi j hj=>by
  have:=Ca i;have hx:=dc (show off+lf i*k+j<B.cells.length by omega)
  obtain⟨y,k1,k2,k3⟩:=j6 _ _ hx;refine⟨_,y,hx,k1,k2,k3,?_⟩;show((c.toList.drop (off+lf i*k)).take k)[j]? = some y;rw[uo,ab hj,lE,iR];exact k1
 have kG:∀i,∀v∈enc i,v.oneCell' = true:=λi v hv=>by
  obtain⟨j,hj⟩:=sD.1 hv;have hjk:j<k:=by rw[<-hek i];exact(cT.1 hj).1
  obtain⟨_,y,_,_,_,h3,h4⟩:=gC i j hjk;rw[hj]at h4;cases h4;exact h3
 have pI:∀i (n p:Nat),p+n=k->cd (af σ ids I) w.heap ((B.cells.drop (off+lf i*k+p)).take n) ((c.toList.drop (off+lf i*k+p)).take n):=λi n=>by
  induction n with
  |zero=>intro p _;simp[cd]
  |succ n ih=>
   intro p hp;have:=Ca i;obtain⟨x,y,h1,h2,h3,_,_⟩:=gC i p (by omega)
   have l1:off+lf i*k+p<B.cells.length:=by omega
   have l2:off+lf i*k+p<c.toList.length:=by simp;omega
   rw[rh l1,rh l2,List.take_succ_cons,List.take_succ_cons];refine⟨_,_,rfl,?_,ih (p+1) (by omega)⟩
   rw[dc l1]at h1;rw[<-Array.getElem?_toList,dc l2]at h2;cases h1;cases h2;exact h3
 have tV:∀i,VR (af σ ids I) w.heap (av i) (.agg (enc i).toArray):=λi=>by
  unfold VR;exact⟨enc i,rfl,pI i k 0 (by omega),kG i⟩
 have P6:∀i,D[lf i]? = some (av i):=λi=>sS _ (qj i);have hpS:=MM D;generalize hS:kg D=S at *;have hSl:S.length=len:=by rw[hpS.length_eq,hDl]
 have hSn:S.Nodup:=by
  rw[List.nodup_iff_pairwise_ne,rr];intro a b ha hb wG e;obtain⟨q,q1,q2⟩:=BF pL (dc ha) (dc hb);obtain⟨q', q3,q4⟩:=BF pL (dc hb) (dc ha);rw[e]at q1 q3;rw[q1]at q3;simp only[bF]at q3;subst q3;have:=q2.2 wG;have:=q4.1 this;omega
 have hex:∀i,∃j,j<len/\S[j]? = some (av i):=λi=>by
  obtain⟨j,hj⟩:=sD.1 (hpS.mem_iff.2 (sD.2 ⟨_,P6 i⟩));exact⟨j,by rw[<-hSl];exact(cT.1 hj).1,hj⟩
 obtain⟨r,hr⟩:=Classical.axiomOfChoice hex;have zf:∀i j,∃q,iF ce g aI (av i) (av j)=some q/\(q<0↔r i<r j):=λi j=>BF pL (hr i).2 (hr j).2
 let cf:Nat->Nat->Int:=λi j=>(iF ce g aI (av i) (av j)).getD 0
 have za:∀i j,iF ce g aI (av i) (av j)=some (cf i j):=λi j=>by
  obtain⟨q,h1,_⟩:=zf i j;show _=some ((iF ce g aI (av i) (av j)).getD 0);rw[h1];rfl
 have KP:∀i j,cf i j<0↔r i<r j:=λi j=>by
  obtain⟨q,h1,h2⟩:=zf i j;have:cf i j=q:=by show(iF ce g aI (av i) (av j)).getD 0=q;rw[h1];rfl
  rw[this];exact h2
 have eg:∀args w,(callFunc g args).run P w = .ok (.enter g args) w:=by
  have h:=za 0 0;unfold iF at h;have hp:∃x,iZ ce g (av 0::av 0::aI)=some x:=by
   split at h
   ·rename_i c fW; exact⟨_,fW⟩
   ·simp at h
  obtain⟨x,hp⟩:=hp;unfold iZ at hp;split at hp
  case isFalse=>simp at hp
  cases hc:ce g ((av 0::av 0::aI).map wk) []with
  |none=>rw[hc]at hp;simp at hp
  |some r=>exact xY (jw g _ _ r hc)
 have sT:=(jd.1 hH).1;have P7:∀t,t<len*k->(flatK enc k (Array.range len))[t]? = c[off+t]?:=λt ht=>by
  have rY:=Nat.mod_lt t jY;have KX:t/k<len:=(Nat.div_lt_iff_lt_mul jY).2 ht;have hdm:=Nat.div_add_mod t k;have MN:lf (t/k)=t/k:=by show min (t/k) (len-1)=t/k;omega
  obtain⟨_,y,_,h2,_,_,h5⟩:=gC (t/k) (t%k) rY;rw[MN]at h2;have:off+t/k*k+t%k=off+t:=by rw[Nat.mul_comm];omega
  rw[this]at h2;rw[h2];simp only[flatK,Array.getElem?_map,sJ];rw[Array.getElem?_range,ab ht];simp only[lH,bF];have hr:(Array.range len)[t/k]! = t/k:=by rw[getElem!_def,Array.getElem?_range,ab KX]
  rw[hr,getElem!_def,h5]
 have agL:(flatK enc k (Array.range len)).size=len*k:=by simp[flatK]
 have oY:HoldsK enc k w (ids b) off (Array.range len):=λj hj=>by
  rw[agL]at hj;have h1:=P7 j hj;have aK:off+j<c.size:=by omega
  refine⟨?_,?_⟩
  ·simp only[World.cell?,hH]
   rw[getElem!_def,h1,jg aK];simp[aK]
  ·simp[World.frozen?,hH]
 have key:=AnyQ.slices_SortFunc L k (λw=>by have:=re Ws w;exact this) (λw=>by have:=iP (kD Ws) w;exact this) enc hek kG cf (P3 KP) g cb.toArray (ids b) off cap (Array.range len) w eg
  (ZW dM hg oh Wf tV za) oY sT (by
   have:len*1<=len*k:=Nat.mul_le_mul_left len jY;simp[dE]at fP ⊢;omega)
 simp only[sJ]at key;rw[e1,e2];refine key.mono ?_;rintro e w' ⟨rfl,d', n,os,hp,hs,rfl⟩;obtain⟨p1,_,p3⟩:=hp;simp only[sJ]at p1 p3;have zb:d'.toList.Perm (List.range len):=by
  have e3:(d'.extract 0 len).toList=d'.toList:=by rw[<-p1];simp
  have e4:((Array.range len).extract 0 len).toList=List.range len:=by
   have:(Array.range len).extract 0 len=Array.range len:=by
    have:=Array.extract_size (xs:=Array.range len)
    rwa [sJ]at this
   rw[this];simp
  rw[e3,e4]at p3;exact p3
 have zd:(List.range len).map av=D:=by
  apply List.ext_getElem? λi=>?_;rw[ie]
  by_cases hi:i<len
  ·rw[List.getElem?_range hi]
   have:=P6 i;rw[show lf i=i by show min i (len-1)=i;omega]at this
   rw[this];rfl
  ·rw[jF (by simp;omega),jF (by omega)];rfl
 have hE:d'.toList.map av=S:=by
  refine List.Perm.eq_of_pairwise (le:=λx y=>∃a b:Nat,a<=b/\S[a]? = some x/\S[b]? = some y) (λx y _ _ h k=>?_) ?_ ?_ (((zb.map av).trans (by rw[zd])).trans hpS.symm)
  ·obtain⟨a,b,h1,h2,h3⟩:=h
   obtain⟨a', b', k1,k2,k3⟩:=k;obtain⟨l1,r5⟩:=cT.1 h2;obtain⟨l2,h3'⟩:=cT.1 h3;obtain⟨l3,k2'⟩:=cT.1 k2;obtain⟨l4,k3'⟩:=cT.1 k3;have e1:a=b' :=(List.getElem_inj hSn).1 (r5.trans k3'.symm);have e2:b=a' :=(List.getElem_inj hSn).1 (h3'.trans k2'.symm);have:a=b:=by omega
   subst this;rw[<-r5, <-h3']
  ·rw[List.pairwise_map,rr]
   intro i j hi hj qk;simp only[nD]at hi hj;have:=hs i j (Nat.zero_le _) qk (by omega)
   rw[getElem!_pos d' j hj,getElem!_pos d' i hi]at this;simp only[ltOf,wg,KP]at this;simp only[Array.getElem_toList];exact⟨_,_,by omega,(hr d'[i]).2,(hr d'[j]).2⟩
  ·rw[rr]
   intro i j hi hj qk;exact⟨i,j,by omega,dc hi,dc hj⟩
 have nq:S.flatMap AV.cells=d'.toList.flatMap λi=>(B.cells.drop (off+lf i*k)).take k:=by
  rw[<-hE,List.flatMap_map]
 have hck:∀i,((B.cells.drop (off+lf i*k)).take k).length=k:=λi=>by
  have:=Ca i;simp;omega
 have sh:(S.flatMap AV.cells).length=len*k:=by
  rw[nq,P4 λi _=>hck i];simp[p1]
 have AO:(flatK enc k d').size=len*k:=by simp[flatK,p1]
 obtain⟨g1,g2⟩:=ue (vals:=(flatK enc k d').toList.map id) (new:=S.flatMap AV.cells) (off:=off) hg bH dP (mA (u:=0) hb) hH (by omega) (by rw[sh];simp[AO]) (λt q ht=>by
  have K8:t<len*k:=by rw[<-sh];exact(cT.1 ht).1
  have rY:=Nat.mod_lt t jY;have KX:t/k<len:=(Nat.div_lt_iff_lt_mul jY).2 K8;have Ic:t/k<d'.toList.length:=by simp[p1,KX]
  rw[nq,P5 (λi _=>hck i) jY (by simpa[p1]using K8),dc Ic]at ht
  simp only[Option.bind_some]at ht;obtain⟨x,y,h1,h2,h3,h4,h5⟩:=gC (d'.toList[t/k]) (t%k) rY;have hx:x=q:=by
   rw[uo,ab rY,lE,h1]at ht;exact Option.some.inj ht
  subst hx;refine⟨y,?_,h3,h4⟩;rw[ie,iR];simp only[flatK,Array.getElem?_map,p1];rw[Array.getElem?_range,ab K8];simp only[lH,id,bF];rw[getElem!_pos d' (t/k) (by simpa using Ic)]
  rw[getElem!_def];simp only[Array.getElem_toList]at h5;rw[h5])
 obtain⟨pl,_⟩:=q8 B.cells (S.flatMap AV.cells) off (by omega)
 have eQ:=oG (ids:=ids) (I:=I) (id' :=ids b) (B' :=⟨B.k,putAt B.cells off (S.flatMap AV.cells),B.st⟩) hb jh;have j7:(λq=>if q=b then ids b else ids q)=ids:=by funext q;split<;>simp_all
 rw[j7]at eQ;obtain⟨f1,f2⟩:=Good.shrink (C2:=af (ay σ b ⟨B.k,putAt B.cells off (S.flatMap AV.cells),B.st⟩) ids I) g1 rfl (λb1 u1 e1 h1=>by
  have:=eQ b1 u1 e1 h1;simp only[pl]at this;exact this) (λb1 u1 h1=>oH (ids:=ids) (I:=I) hb (by show B.cells.length<=(putAt B.cells off (S.flatMap AV.cells)).length;rw[pl];exact bw _) b1 u1 h1)
 obtain⟨r1,r2⟩:=agJ (enc:=id) (off:=off) (n:=n) (os:=os) (d' :=flatK enc k d') hH (by rw[AO];omega)
 have dt:∀j,j<(w.setRow (ids b) (c.toList.take off++(flatK enc k d').toList.map id++c.toList.drop (off+((flatK enc k d').toList.map id).length)).toArray).heap.size->(sortWorldK enc k w (ids b) off n d' os).heap[j]? = (w.setRow (ids b) (c.toList.take off++(flatK enc k d').toList.map id++c.toList.drop (off+((flatK enc k d').toList.map id).length)).toArray).heap[j]?:=λj hj=>r2 j (by rwa [nw]at hj)
 obtain⟨q1,q2⟩:=f1.ou r1 dt I (λ_ h=>h) (λj hj=>Nat.lt_of_lt_of_le (f1.I j hj) r1) (λj hj=>.inl hj) rfl ⟨rfl,by show w.drawn<=w.drawn+n;omega⟩ rfl
 exact⟨_,ids,I,rfl,q1,by unfold VR;exact⟨[],rfl,rfl⟩,(g2.trans f2).trans q2⟩
theorem agM{ρ:Ren}(L:SlLaysF0.n6 P ρ){f k:Nat}(hf:ρ.f 6=f) (Ws:bt P (ρ.t 24) (some k)=true) (hb:cJ P f=true):eR P f (jm k):=by
 subst hf;refine⟨hb,λce dM jw args σ r bp hp ids I w vs hg hv=>?_⟩;have fo:∀(v2:Value) (p:Option Addr) (cap:Nat),Calls P (ρ.f 6) #[.slice p 0 cap,v2] w λe w' =>∃v aJ I', e = .returned v/\Good (af σ aJ I') w' /\VR (af σ aJ I') w'.heap (.bQ []) v/\Step (af σ ids I) w (af σ aJ I') w' :=λv2 p cap=>by
  refine(AnyF.slices_SortFunc_none (P:=P) (ρ:=ρ) L p cap v2 w).mono ?_;rintro e w' ⟨rfl,rfl⟩;exact⟨_,ids,I,rfl,hg,by unfold VR;exact⟨[],rfl,rfl⟩,Step.refl _ _⟩
 unfold jm at hp;split at hp
 ·simp only[bF,Prod.mk.injEq]at hp
  obtain⟨rfl,rfl⟩:=hp;obtain⟨v1,s1,rfl,dQ,v2,s2,rfl,nG,rfl⟩:=hv;have dQ:v1 = .slice none 0 0:=dQ;subst dQ;exact fo v2 none 0
 ·simp only[bF,Prod.mk.injEq]at hp
  obtain⟨rfl,rfl⟩:=hp;obtain⟨v1,s1,rfl,dQ,v2,s2,rfl,nG,rfl⟩:=hv;unfold VR at dQ;rcases dQ.2 with⟨_,a,rfl,_⟩|⟨ak,off,cap,st,c,el,fz,rfl,_⟩
  ·exact fo v2 a 0
  ·exact fo v2 _ cap
 ·rename_i b u off len g aI
  split at hp
  ·rename_i B hu
   split at hp
   ·rename_i h0
    simp only[bF,Prod.mk.injEq]at hp;obtain⟨rfl,rfl⟩:=hp;have h0:len=0:=by simpa using h0
    subst h0;obtain⟨v1,s1,rfl,dQ,v2,s2,rfl,nG,rfl⟩:=hv;unfold VR at dQ;obtain⟨⟨p,cap,rfl,_⟩,_⟩:=dQ;exact fo v2 p cap
   ·rename_i h0
    split at hp
    ·rename_i hc
     simp only[aD,eP]at hc;obtain⟨⟨⟨⟨⟨c1,c2⟩,c3⟩,c4⟩,c5⟩,c6⟩:=hc;simp only[bF,Prod.mk.injEq]at hp;obtain⟨rfl,rfl⟩:=hp;have dP:B.st = .live:=by revert c2;cases B.st<;>simp[eo.isLive]
     exact agK L Ws dM jw hu dP (Bw c1) c3 (Nat.pos_of_ne_zero (by simpa using h0)) c4 c5 c6 hg hv
    ·simp at hp
  ·simp at hp
 ·simp at hp
end Ab
