/- slices.SortFunc, at structs with different first cells. Condition: the library's own text, as the kit's contract has walked it. -/
import Derived.Test.YtdenhmniigikcaaGreatAbSortS
set_option linter.all false
namespace Ab
open Go Go.Proofs Go.Shelf Go.Sort
variable{P:Program}
section
variable{α:Type} [Inhabited α]{enc:α->Value}
variable{w:World}{id off m:Nat}{os:Array Obj}
theorem ahm{a:Array α}:(sortWorld enc w id off m a os).heap.size=w.heap.size+os.size:=by
 simp[sortWorld,grow,putRow,mapBlock,«Sort».ahead]
theorem ahn{a:Array α}{j:Nat}(h:j<w.heap.size) (b:j ≠ id):(sortWorld enc w id off m a os).heap[j]? = w.heap[j]?:=by
 simp only[sortWorld,grow,putRow,mapBlock,«Sort».ahead];rw[lq cq,sD,ad aa]
end
def Q2{r:Nat->Nat}{cf:Nat->Nat->Int}(h:∀i j,cf i j<0↔r i<r j):SWO (ltOf cf) where
 irrefl x:=by simp only[ltOf,uA,h];omega
 trans x y z h1 h2:=by simp only[ltOf,eo,h]at *;omega
 ntrans x y z h1 h2:=by simp only[ltOf,uA,h]at *;omega
def Q3{a b:Type}{f:a->List b}{k:Nat}:∀{l:List a},(∀x∈l,(f x).length=k)->(l.flatMap f).length=l.length*k
 | [],_=>by simp
 |x::l,h=>by
  have d:=Q3 (f:=f) (k:=k) (l:=l) λy e=>h y ft
  rw[iI,aU,d,h x ab,cO,fh,Nat.one_mul,Nat.add_comm]
def Q4{b e:Type}{f:b->List e}{k:Nat}:∀{l:List b}{t:Nat},(∀x∈l,(f x).length=k)->0<k->t<l.length*k->(l.flatMap f)[t]? = (l[t/k]?).bind λx=>(f x)[t%k]?
 | [],t,_,_,h=>by simp at h
 |x::l,t,h,d,g=>by
  have i:=h x ab
  rw[iI]
  by_cases a:t<k
  .rw[eJ aa,Nat.div_eq_of_lt a,Nat.mod_eq_of_lt a];rfl
  .have j:=Q4 (f:=f) (k:=k) (l:=l) (t:=t-k) (λy m=>h y (by simp[m])) d (by rw[cO,fh]at g;omega)
   rw[gA aa,i,j]
   obtain⟨u,rfl⟩:∃u,t=u+k:=⟨t-k,aa⟩
   rw[Nat.add_sub_cancel,Nat.add_div_right u d,Nat.add_mod_right]
   rfl
variable{w:World}{off:Nat}
def aho{a:Type} [Inhabited a]{enc:a->Value}{id n:Nat}{d' : Array a}{os:Array Obj}{c:Array Value}{el:TypeId}(g:w.heap[id]? = some (.cells c el (0,0))) (h:off+d'.size<=c.size) :
  (w.setRow id (c.toList.take off++d'.toList.map enc++c.toList.drop (off+(d'.toList.map enc).length)).toArray).heap.size<=(sortWorld enc w id off n d' os).heap.size/\
  ∀k,k<w.heap.size->(sortWorld enc w id off n d' os).heap[k]? = (w.setRow id (c.toList.take off++d'.toList.map enc++c.toList.drop (off+(d'.toList.map enc).length)).toArray).heap[k]?:=by
 refine⟨by rw[od,ahm];omega,λk j=>?_⟩
 by_cases e:k=id
 .subst e
  rw[setRow_heap w k c _ el (0,0) g];simp only[sortWorld,grow,putRow,mapBlock,«Sort».ahead];rw[lq (by simpa using j),sD,ae rfl,g]
  simp only[mS,onCells,bT,lC,and_true];apply Array.ext_getElem?;intro i;have b:∀L:List Value,L.toArray[i]? = L[i]?:=λL=>ab
  rw[b (c.toList.take off++d'.toList.map enc++c.toList.drop (off+(d'.toList.map enc).length))];simp only[putCells,Array.getElem?_mapIdx,dA,oh]
  by_cases l:i<off
  .rw[gZ,eJ ax,uz,ae l,ja]
   cases m:c[i]? with
   |none=>rfl
   |some v=>simp;omega
  .by_cases o:i<off+d'.size
   .rw[eJ ax,gA ax,iv]
    have d:i<c.size:=aa
    rw[lB d];simp only[og,oh,mS];rw[ae aa,show min off c.size=off by omega,ja,lB aa]
    simp[getElem!_def,lB (show i-off<d'.size by omega)]
   .rw[gA ax,mP,ja]
    simp only[aU,og,oh,dA];rw[show off+d'.size+(i-(min off c.size+d'.size))=i by omega]
    cases m:c[i]? with
    |none=>rfl
    |some v=>simp;omega
 .rw[ahn j e,ki w id _ e]
variable{ρ:Ren}{k:Nat}
def ahp(L:SlLaysF0.n6 P ρ)(hkd:bF P (ρ.t 24) (some k)=true){ce:CE}(qT:cw P ce) (xW:dZ P ce){b u len g:Nat}{cz:List AV}{σ:List al}{B:al}(hu:upto σ b u=some B) (jM:B.st = .live) (hk:B.k=some k) (sZ:0<k) (hlen:0<len) (yy:off+len*k<=B.cells.length) (oX:B.cells.length<=dK)
  (zi:jA ce g cz (kA (chunk (some k) len (B.cells.drop off)))=true) {ids:Nat->Nat} {I:Nat->Prop}  {vs:List Value} (hg:Good (af σ ids I) w) (hv:cj (af σ ids I) w.heap [.sl b u off len,.func g cz] vs) :
  Calls P (ρ.f 6) vs.toArray w λe w' =>∃v bY I', e = .returned v/\Good (af (ar σ b ⟨B.k,putAt B.cells off ((kA (chunk (some k) len (B.cells.drop off))).flatMap AV.cells),B.st⟩) bY I') w' /\VR (af (ar σ b ⟨B.k,putAt B.cells off ((kA (chunk (some k) len (B.cells.drop off))).flatMap AV.cells),B.st⟩) bY I') w'.heap (.bM []) v/\Step (af σ ids I) w (af (ar σ b ⟨B.k,putAt B.cells off ((kA (chunk (some k) len (B.cells.drop off))).flatMap AV.cells),B.st⟩) bY I') w' :=by
 obtain⟨hb,qc,qS⟩:=sI hu;have da:=nX ids I hu;subst qc;obtain⟨v1,s1,rfl,qV,v2,s2,rfl,AT,rfl⟩:=hv;unfold VR at qV AT;have qV:=qV.2.2 B _ da;rw[jM]at qV;obtain⟨c,el,o,cap,hH,e1,yE,Za,xT⟩:=qV;rw[yE aa]at e1
 obtain⟨cb,e2,B5⟩:=AT;obtain⟨Ez,c', AM, wq, hle,oY⟩:=hg.live b _ B _ da jM;rw[hH]at wq;simp only[bT,lC]at wq;obtain⟨rfl,rfl,_⟩:=wq;generalize hD:chunk (some k) len (B.cells.drop off)=D at zi ⊢;have hDl:D.length=len:=by rw[<-hD,Ow]
 have zj:∀i,i<len->D[i]? = some (.agg ((B.cells.drop (off+i*k)).take k)):=λi hi=>by
  rw[<-hD,Ov len _ ax i hi,List.drop_drop]
 let lM:Nat->Nat:=λi=>min i (len-1)
 have zk:∀i,lM i<len:=λi=>by show min i (len-1)<len;omega
 have B7:∀i,off+lM i*k+k<=B.cells.length:=λi=>by
  have:=lr k (show lM i+1<=len from zk i);rw[fh]at this;omega
 let av:Nat->AV:=λi=>.agg ((B.cells.drop (off+lM i*k)).take k)
 let enc:Nat->List Value:=λi=>(c.toList.drop (off+lM i*k)).take k
 have hek:∀i,(enc i).length=k:=λi=>by
  have:=B7 i;show((c.toList.drop (off+lM i*k)).take k).length=k;simp;omega
 have lK:∀i (j:Nat),j<k->∃x y,B.cells[off+lM i*k+j]? = some x/\c[off+lM i*k+j]? = some y/\VR (af σ ids I) w.heap x y/\y.oneCell' = true/\(enc i)[j]? = some y:=λi j hj=>by
  have:=B7 i;have hx:=db (show off+lM i*k+j<B.cells.length by omega)
  obtain⟨y,k1,k2,k3⟩:=oY _ _ hx;refine⟨_,y,hx,k1,k2,k3,?_⟩;show((c.toList.drop (off+lM i*k)).take k)[j]? = some y;rw[uz,ae hj,mP,ja];exact k1
 have sJ:∀i,∀v∈enc i,v.oneCell' = true:=λi v hv=>by
  obtain⟨j,hj⟩:=uo.1 hv;have hjk:j<k:=by rw[<-hek i];exact(dC.1 hj).1
  obtain⟨_,y,_,_,_,h3,h4⟩:=lK i j hjk;rw[hj]at h4;cases h4;exact h3
 have xR:∀i (n p:Nat),p+n=k->cj (af σ ids I) w.heap ((B.cells.drop (off+lM i*k+p)).take n) ((c.toList.drop (off+lM i*k+p)).take n):=λi n=>by
  induction n with
  |zero=>intro p _;simp[cj]
  |succ n ih=>
   intro p hp;have:=B7 i;obtain⟨x,y,h1,h2,h3,_,_⟩:=lK i p aa
   have l1:off+lM i*k+p<B.cells.length:=aa
   have l2:off+lM i*k+p<c.toList.length:=ax
   rw[qj l1,qj l2,List.take_succ_cons,List.take_succ_cons];refine⟨_,_,rfl,?_,ih (p+1) aa⟩
   rw[db l1]at h1;rw[<-Array.getElem?_toList,db l2]at h2;cases h1;cases h2;exact h3
 have EJ:∀i,VR (af σ ids I) w.heap (av i) (.agg (enc i).toArray):=λi=>by
  unfold VR;exact⟨enc i,rfl,xR i k 0 aa,sJ i⟩
 have Q5:∀i,D[lM i]? = some (av i):=λi=>zj _ (zk i);have hpS:=NU D;generalize hS:kA D=S at *;have Q6:S.length=len:=by rw[hpS.length_eq,hDl]
 have hSn:S.Nodup:=by
  rw[List.nodup_iff_pairwise_ne,qm];intro a b ha hb w3 e;obtain⟨q,q1,q2⟩:=BF zi (db ha) (db hb);obtain⟨q', q3,q4⟩:=BF zi (db hb) (db ha);rw[e]at q1 q3;rw[q1]at q3;simp only[bT]at q3;subst q3;have:=q2.2 w3;have:=q4.1 this;omega
 have hex:∀i,∃j,j<len/\S[j]? = some (av i):=λi=>by
  obtain⟨j,hj⟩:=uo.1 (hpS.mem_iff.2 (uo.2 ⟨_,Q5 i⟩));exact⟨j,by rw[<-Q6];exact(dC.1 hj).1,hj⟩
 obtain⟨r,hr⟩:=Classical.axiomOfChoice hex;have EK:∀i j,∃q,iM ce g cz (av i) (av j)=some q/\(q<0↔r i<r j):=λi j=>BF zi (hr i).2 (hr j).2
 let cf:Nat->Nat->Int:=λi j=>(iM ce g cz (av i) (av j)).getD 0
 have zm:∀i j,iM ce g cz (av i) (av j)=some (cf i j):=λi j=>by
  obtain⟨q,h1,_⟩:=EK i j;show _=some ((iM ce g cz (av i) (av j)).getD 0);rw[h1];rfl
 have BA:∀i j,cf i j<0↔r i<r j:=λi j=>by
  obtain⟨q,h1,h2⟩:=EK i j;have:cf i j=q:=by show(iM ce g cz (av i) (av j)).getD 0=q;rw[h1];rfl
  rw[this];exact h2
 have eg:∀args w,(callFunc g args).run P w = .ok (.enter g args) w:=by
  have h:=zm 0 0;unfold iM at h;have hp:∃x,jq ce g (av 0::av 0::cz)=some x:=by
   split at h
   .rename_i c yq; exact⟨_,yq⟩
   .simp at h
  obtain⟨x,hp⟩:=hp;unfold jq at hp;split at hp
  case isFalse=>simp at hp
  cases hc:ce g ((av 0::av 0::cz).map wk) []with
  |none=>rw[hc]at hp;simp at hp
  |some r=>exact yp (xW g _ _ r hc)
 have zn:=(ke.1 hH).1;have Q7:∀t,t<len*k->(flatK enc k (Array.range len))[t]? = c[off+t]?:=λt ht=>by
  have GP:=l6 t sZ;have Mt:t/k<len:=(oV sZ).2 ht;have hdm:=Nat.div_add_mod t k;have hi0:lM (t/k)=t/k:=by show min (t/k) (len-1)=t/k;omega
  obtain⟨_,y,_,h2,_,_,h5⟩:=lK (t/k) (t%k) GP;rw[hi0]at h2;have:off+t/k*k+t%k=off+t:=by rw[mO];omega
  rw[this]at h2;rw[h2];simp only[flatK,Array.getElem?_map,sT];rw[Array.getElem?_range,ae ht];simp only[mS,bT];have hr:(Array.range len)[t/k]! = t/k:=by rw[getElem!_def,Array.getElem?_range,ae Mt]
  rw[hr,getElem!_def,h5]
 have ahq:(flatK enc k (Array.range len)).size=len*k:=by simp[flatK]
 have uR:HoldsK enc k w (ids b) off (Array.range len):=λj hj=>by
  rw[ahq]at hj;have h1:=Q7 j hj;have cm:off+j<c.size:=aa
  refine⟨?_,?_⟩
  .simp only[World.cell?,hH]
   rw[getElem!_def,h1,lB cm];simp[cm]
  .simp[World.frozen?,hH]
 have key:=AnyQ.slices_SortFunc L k (λw=>by have:=uq hkd w;exact this) (λw=>by have:=lu (nZ hkd) w;exact this) enc hek sJ cf (Q2 BA) g cb.toArray (ids b) off cap (Array.range len) w eg
  (aaB qT hg B5 Ez EJ zm) uR zn (by
   have:len*1<=len*k:=Nat.mul_le_mul_left len sZ;simp[dK]at oX ⊢;omega)
 simp only[sT]at key;rw[e1,e2];refine key.mono ?_;rintro e w' ⟨rfl,d', n,os,hp,hs,rfl⟩;obtain⟨p1,_,p3⟩:=hp;simp only[sT]at p1 p3;have zo:d'.toList.Perm (List.range len):=by
  have e3:(d'.extract 0 len).toList=d'.toList:=by rw[<-p1];simp
  have e4:((Array.range len).extract 0 len).toList=List.range len:=by
   have:(Array.range len).extract 0 len=Array.range len:=by
    have:=Array.extract_size (xs:=Array.range len)
    rwa [sT]at this
   rw[this];simp
  rw[e3,e4]at p3;exact p3
 have zp:(List.range len).map av=D:=by
  apply List.ext_getElem? λi=>?_;rw[iv]
  by_cases hi:i<len
  .rw[List.getElem?_range hi]
   have:=Q5 i;rw[show lM i=i by show min i (len-1)=i;omega]at this
   rw[this];rfl
  .rw[jg ax,jg aa];rfl
 have hE:d'.toList.map av=S:=by
  refine List.Perm.eq_of_pairwise (le:=λx y=>∃a b:Nat,a<=b/\S[a]? = some x/\S[b]? = some y) (λx y _ _ h k=>?_) ?_ ?_ (((zo.map av).trans (by rw[zp])).trans hpS.symm)
  .obtain⟨a,b,h1,h2,h3⟩:=h
   obtain⟨a', b', k1,k2,k3⟩:=k;obtain⟨l1,yz⟩:=dC.1 h2;obtain⟨l2,h3'⟩:=dC.1 h3;obtain⟨l3,k2'⟩:=dC.1 k2;obtain⟨l4,k3'⟩:=dC.1 k3;have e1:a=b' :=(rN hSn).1 (yz.trans k3'.symm);have e2:b=a' :=(rN hSn).1 (h3'.trans k2'.symm);have:a=b:=aa
   subst this;rw[<-yz, <-h3']
  .rw[List.pairwise_map,qm]
   intro i j hi hj vR;simp only[oh]at hi hj;have:=hs i j (Nat.zero_le _) vR aa
   rw[getElem!_pos d' j hj,getElem!_pos d' i hi]at this;simp only[ltOf,uA,BA]at this;simp only[Array.getElem_toList];exact⟨_,_,aa,(hr d'[i]).2,(hr d'[j]).2⟩
  .rw[qm]
   intro i j hi hj vR;exact⟨i,j,aa,db hi,db hj⟩
 have sM:S.flatMap AV.cells=d'.toList.flatMap λi=>(B.cells.drop (off+lM i*k)).take k:=by
  rw[<-hE,List.flatMap_map]
 have hck:∀i,((B.cells.drop (off+lM i*k)).take k).length=k:=λi=>by
  have:=B7 i;simp;omega
 have Me:(S.flatMap AV.cells).length=len*k:=by
  rw[sM,Q3 λi _=>hck i];simp[p1]
 have wQ:(flatK enc k d').size=len*k:=by simp[flatK,p1]
 obtain⟨g1,g2⟩:=wz (vals:=(flatK enc k d').toList.map id) (new:=S.flatMap AV.cells) (off:=off) hg da jM (oo (u:=0) hb) hH aa (by rw[Me];simp[wQ]) (λt q ht=>by
  have EL:t<len*k:=by rw[<-Me];exact(dC.1 ht).1
  have GP:=l6 t sZ;have Mt:t/k<len:=(oV sZ).2 EL;have GQ:t/k<d'.toList.length:=by simp[p1,Mt]
  rw[sM,Q4 (λi _=>hck i) sZ (by simpa[p1]using EL),db GQ]at ht
  simp only[Option.bind_some]at ht;obtain⟨x,y,h1,h2,h3,h4,h5⟩:=lK (d'.toList[t/k]) (t%k) GP;have hx:x=q:=by
   rw[uz,ae GP,mP,h1]at ht;exact Option.some.inj ht
  subst hx;refine⟨y,?_,h3,h4⟩;rw[iv,ja];simp only[flatK,Array.getElem?_map,p1];rw[Array.getElem?_range,ae EL];simp only[mS,id,bT];rw[getElem!_pos d' (t/k) (by simpa using GQ)]
  rw[getElem!_def];simp only[Array.getElem_toList]at h5;rw[h5])
 obtain⟨pl,_⟩:=sH B.cells (S.flatMap AV.cells) off aa
 have iK:=qd (ids:=ids) (I:=I) (id' :=ids b) (B' :=⟨B.k,putAt B.cells off (S.flatMap AV.cells),B.st⟩) hb qS;have oZ:(λq=>if q=b then ids b else ids q)=ids:=km
 rw[oZ]at iK;obtain⟨f1,f2⟩:=Good.shrink (C2:=af (ar σ b ⟨B.k,putAt B.cells off (S.flatMap AV.cells),B.st⟩) ids I) g1 rfl (λb1 u1 e1 h1=>by
  have:=iK b1 u1 e1 h1;simp only[pl]at this;exact this) (λb1 u1 h1=>qf (ids:=ids) (I:=I) hb (by show B.cells.length<=(putAt B.cells off (S.flatMap AV.cells)).length;rw[pl];exact bd _) b1 u1 h1)
 obtain⟨r1,r2⟩:=aho (enc:=id) (off:=off) (n:=n) (os:=os) (d' :=flatK enc k d') hH (by rw[wQ];omega)
 have fC:∀j,j<(w.setRow (ids b) (c.toList.take off++(flatK enc k d').toList.map id++c.toList.drop (off+((flatK enc k d').toList.map id).length)).toArray).heap.size->(sortWorldK enc k w (ids b) off n d' os).heap[j]? = (w.setRow (ids b) (c.toList.take off++(flatK enc k d').toList.map id++c.toList.drop (off+((flatK enc k d').toList.map id).length)).toArray).heap[j]?:=λj hj=>r2 j (by rwa [od]at hj)
 obtain⟨q1,q2⟩:=f1.oT r1 fC I (λ_ h=>h) (λj hj=>ui (f1.I j hj) r1) (λj hj=>.inl hj) rfl ⟨rfl,by show w.drawn<=w.drawn+n;omega⟩ rfl
 exact⟨_,ids,I,rfl,q1,mY,(g2.trans f2).trans q2⟩
def ahr(L:SlLaysF0.n6 P ρ){f:Nat}(K:ρ.f 6=f) (y:bF P (ρ.t 24) (some k)=true) (M:cM P f=true):eS P f (jB k):=by
 subst K;refine⟨M,λce z A args q r N i ids I w W E s=>?_⟩;have d:∀(l:Value) (p:Option Addr) (cap:Nat),Calls P (ρ.f 6) #[.slice p 0 cap,l] w λe x =>∃v j C, e = .returned v/\Good (af q j C) x /\VR (af q j C) x.heap (.bM []) v/\Step (af q ids I) w (af q j C) x :=λl p cap=>by
  refine(AnyF.slices_SortFunc_none (P:=P) (ρ:=ρ) L p cap l w).mono ?_;rintro e x ⟨rfl,rfl⟩;exact⟨_,ids,I,rfl,E,mY,Step.refl _ _⟩
 unfold jB at i;split at i
 .simp only[bT,Prod.mk.injEq]at i
  obtain⟨rfl,rfl⟩:=i;obtain⟨D,F,rfl,h,l,G,rfl,n,rfl⟩:=s;have h:D = .slice none 0 0:=h;subst h;exact d l none 0
 .simp only[bT,Prod.mk.injEq]at i
  obtain⟨rfl,rfl⟩:=i;obtain⟨D,F,rfl,h,l,G,rfl,n,rfl⟩:=s;unfold VR at h;rcases h.2 with⟨_,a,rfl,_⟩|⟨aq,off,cap,st,c,el,X,rfl,_⟩
  .exact d l a 0
  .exact d l _ cap
 .rename_i b u off len g H
  split at i
  .rename_i B O
   split at i
   .rename_i o
    simp only[bT,Prod.mk.injEq]at i;obtain⟨rfl,rfl⟩:=i;have o:len=0:=by simpa using o
    subst o;obtain⟨D,F,rfl,h,l,G,rfl,n,rfl⟩:=s;unfold VR at h;obtain⟨⟨p,cap,rfl,_⟩,_⟩:=h;exact d l p cap
   .rename_i o
    split at i
    .rename_i J
     simp only[aH,eo]at J;obtain⟨⟨⟨⟨⟨Q,R⟩,S⟩,T⟩,U⟩,V⟩:=J;simp only[bT,Prod.mk.injEq]at i;obtain⟨rfl,rfl⟩:=i;have m:B.st = .live:=by revert R;cases B.st<;>simp[fb.isLive]
     exact ahp L y z A O m (Bv Q) S (Nat.pos_of_ne_zero (by simpa using o)) T U V E s
    .simp at i
  .simp at i
 .simp at i
end Ab
