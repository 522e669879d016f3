/- slices.SortFunc, at words under an order of words, does what the small language says. Condition: the library's own text, as the kit's contract has walked it. -/
import Derived.Test.YtdenhmniigikcaaGreatAbC
import Derived.Test.YtdenhmniigikcaaGreatAbSortM
import Derived.Shelf.SlSortCmp.NoneTotal
set_option linter.all false
open Option renaming some->aa,none->ab
open Bool renaming true->ad
open List renaming range->af,length->ah
namespace Ab
open Go Go.Proofs Go.Shelf Go.Sort
variable{P:Program}
def aiM{W w' : World}(j:W.heap.size<=w'.heap.size) (b:∀k,k<W.heap.size->w'.heap[k]? = W.heap[k]?) (e:w'.os=W.os) (a:w'.tape=W.tape/\W.drawn<=w'.drawn) (g:w'.output=W.output) :
  w' = grow (W.drewN (w'.drawn-W.drawn)) (w'.heap.extract W.heap.size w'.heap.size):=by
 obtain⟨H,t,d,o,u⟩:=W;obtain⟨l, n, p, q, r⟩:=w';simp only at j b e a g;obtain⟨rfl,a⟩:=a;subst e;subst g;simp only[grow,World.drewN,World.mk.injEq,true_and,and_true];refine⟨?_,ax⟩
 apply Array.ext_getElem?;intro i
 by_cases h:i<H.size
 .rw[mm h,b i h]
 .rw[vT ax,Array.getElem?_extract]
  by_cases m : i<l.size
  .rw[aD ax,show H.size+(i-H.size)=i by omega]
  .rw[aC ax,Array.getElem?_eq_none ax]
variable{α:Type}{w:World}{id off m:Nat}{os:Array Obj}
def Sw [Inhabited α]{enc:α->Value}{a:Array α}:(sortWorld enc w id off m a os).heap.size=w.heap.size+os.size:=by
 simp[sortWorld,grow,putRow,mapBlock,«Sort».ahead]
def Sx [Inhabited α]{enc:α->Value}{a:Array α}{k:Nat}(h:k<w.heap.size) (b:k ≠ id):(sortWorld enc w id off m a os).heap[k]? = w.heap[k]?:=by
 simp only[sortWorld,grow,putRow,mapBlock,«Sort».ahead];rw[mm du,ug,aC ax]
variable{ce:CE}{g len:Nat}{cU:ao}{enc:Nat->Value}
def aiN(p:cR P ce){C:Ctx}{cb:List Value}(D:Good C w) (q:cH C w.heap cU cb)(r:¬C.I id)
  {av:Nat->AV}  {cf:Nat->Nat->Int} (E:∀i,VR C w.heap (av i) (enc i)) (F:∀i j,jF ce g cU (av i) (av j)=aa (cf i j)) :
  CmpLays1 P g cb.toArray enc cf id off len w:=by
 intro m os n J x y;have h:=F x y;unfold jF at h;have o:j7 ce g (av x::av y::cU)=aa (.int (cf x y)):=by
  split at h
  .rename_i c s; simp at h;subst h;exact s
  .simp at h
 have G:aY (av x::av y::cU)=ad:=by
  unfold j7 at o;split at o
  .assumption
  .simp at o
 have a:∀k,C.I k->(sortWorld enc w id off m n os).heap[k]? = w.heap[k]?:=λk d=>Sx (D.I k d) λe=>r (e▸d);have z : Good (aI [] (λ_=>0) C.I) (sortWorld enc w id off m n os):=
  ⟨λk d=>by rw[Sw];have:=D.I k d;omega,λb u B i h=>eS,λb u B i h=>eS,λb u B i K L M N h=>eS,λb u B i es h=>eS⟩
 have A:cH (aI [] (λ_=>0) C.I) (sortWorld enc w id off m n os).heap (av x::av y::cU) (enc x::enc y::cb):=
  cH.free (show qi C w.heap (aI [] (λ_=>0) C.I) (sortWorld enc w id off m n os).heap from⟨λ_ h=>h,a⟩) _ _ G ⟨_,_,rfl,E x,_,_,rfl,E y,q⟩
 have key:=Aw p o z A;rw[show #[enc x,enc y]++cb.toArray=(enc x::enc y::cb).toArray by simp]
 refine key.mono ?_;rintro e O ⟨v,rfl,Q, R,l,H⟩;refine⟨by rw[H.bV],_,_,aiM l.size (λk d=>l.frame k d pn) l.os l.tape l.output⟩
def aiO{n:Nat}{d' : Array Nat}{c:Array Value}{el:TypeId}(d:w.heap[id]? = aa (.cells c el (0,0))) (g:off+d'.size<=c.size) :
  (w.setRow id (c.toList.take off++d'.toList.map enc++c.toList.drop (off+ah (d'.toList.map enc))).toArray).heap.size<=(sortWorld enc w id off n d' os).heap.size/\
  ∀k,k<w.heap.size->(sortWorld enc w id off n d' os).heap[k]? = (w.setRow id (c.toList.take off++d'.toList.map enc++c.toList.drop (off+ah (d'.toList.map enc))).toArray).heap[k]?:=by
 refine⟨by rw[py,Sw];omega,λk h=>?_⟩
 by_cases e:k=id
 .subst e
  rw[setRow_heap w k c _ el (0,0) d];simp only[sortWorld,grow,putRow,mapBlock,«Sort».ahead];rw[mm du,ug,aD rfl,d]
  simp only[nh,onCells,ct,mw,and_true];apply Array.ext_getElem?;intro i;have a:∀L:List Value,L.toArray[i]? = L[i]?:=λL=>aA
  rw[a (c.toList.take off++d'.toList.map enc++c.toList.drop (off+ah (d'.toList.map enc)))];simp only[putCells,Array.getElem?_mapIdx,db,pB]
  by_cases j:i<off
  .rw[jg,dq aT,wh,aD j,jS]
   cases l:c[i]? with
   |none=>rfl
   |some v=>simp;omega
  .by_cases m:i<off+d'.size
   .rw[dq aT,dW aT,gP]
    have b:i<c.size:=ax
    rw[mu b];simp only[pA,pB,nh];rw[aD ax,show min off c.size=off by omega,jS,mu ax]
    simp[getElem!_def,mu (show i-off<d'.size by omega)]
   .rw[dW aT,oB,jS]
    simp only[bM,pA,pB,db];rw[show off+d'.size+(i-(min off c.size+d'.size))=i by omega]
    cases l:c[i]? with
    |none=>rfl
    |some v=>simp;omega
 .rw[Sx h e,kZ w id _ e]
variable{K:ak->ak->Int}
def aiP(a:v7 K) (wd:Nat->ak):SWO (ltOf λi j=>K (wd i) (wd j)) where
 irrefl x:=by simp[ltOf,a.refl]
 trans x y z h1 h2:=by
  simp only[ltOf,fy]at *;have a1:=a.trans (wd x) (wd y) (wd z) ax ax
  rcases Int.lt_or_eq_of_le a1 with h|h
  .exact h
  .exfalso
   have e:=a.eq _ _ h;rw[e,a.gV]at h1;omega
 ntrans x y z h1 h2:=by
  simp only[ltOf,yM,Int.not_lt]at *;have a1:=a.gV (wd x) (wd y);have a2:=a.gV (wd y) (wd z);have b:=a.gV (wd x) (wd z);have:=a.trans (wd z) (wd y) (wd x) ax ax
  omega
variable{ρ:Ren}
def Sy(L:SlLaysF.n6 P ρ)(sg:cR P ce) (Ag:eT P ce)(hK:v7 K){b u:Nat}{σ:aq}{B:aO}(hu:upto σ b u=aa B) (kC:B.st = .live) (hk:B.k=ab) (hlen:0<len) (vW:off+len<=ah B.cells) (qk:ah B.cells<=eE)
  (Br:agree ce g cU K ((B.cells.drop off).take len)=ad) {ids:Nat->Nat} {I:Nat->Prop}  {vs:List Value} (hg:Good (aI σ ids I) w) (hv:cH (aI σ ids I) w.heap [.sl b u off len,.func g cU] vs) :
  Calls P (ρ.f 6) vs.toArray w λe w' =>∃v cA I', e = .returned v/\Good (aI (aV σ b ⟨B.k,putAt B.cells off (eU K ((B.cells.drop off).take len)),B.st⟩) cA I') w' /\VR (aI (aV σ b ⟨B.k,putAt B.cells off (eU K ((B.cells.drop off).take len)),B.st⟩) cA I') w'.heap (.bY []) v/\
   Step (aI σ ids I) w (aI (aV σ b ⟨B.k,putAt B.cells off (eU K ((B.cells.drop off).take len)),B.st⟩) cA I') w' :=by
 obtain⟨hb,ui,rp⟩:=uk hu;have dF:=pt ids I hu;subst ui;obtain⟨v1,s1,rfl,si,v2,s2,rfl,Dk,rfl⟩:=hv;unfold VR at si Dk;have si:=si.2.2 B _ dF;rw[kC]at si;obtain⟨c,el,o,cap,hH,e1,AJ,Zi,vE⟩:=si;rw[AJ ax]at e1
 obtain⟨cb,e2,N2⟩:=Dk;obtain⟨Zq,c', Da, yD, hle,ql⟩:=hg.live b _ B _ dF kC;rw[hH]at yD;simp only[ct,mw]at yD;obtain⟨rfl,rfl,_⟩:=yD;generalize hD:(B.cells.drop off).take len=D at Br ⊢;have hDl:ah D=len:=by rw[<-hD];simp;omega
 have Bt:∀i,i<len->D[i]? = B.cells[off+i]?:=λi hi=>by rw[<-hD,wh,aD hi,oB]
 let mJ:Nat->Nat:=λi=>min i (len-1)
 have Bu:∀i,mJ i<len:=λi=>by show min i (len-1)<len;omega
 have hex:∀i,∃x,D[mJ i]? = aa x:=λi=>⟨_,dG (by rw[hDl];exact Bu i)⟩
 let av:Nat->AV:=λi=>(D[mJ i]?).getD .aW
 have hav:∀i,D[mJ i]? = aa (av i):=λi=>by obtain⟨x,hx⟩:=hex i;show _=aa ((D[mJ i]?).getD .aW);rw[hx];rfl
 have lD:∀i,av i∈D:=λi=>vX.2 ⟨_,hav i⟩
 let enc:Nat->Value:=λi=>(c[off+mJ i]?).getD undef
 have Bv:∀i,c[off+mJ i]? = aa (enc i)/\VR (aI σ ids I) w.heap (av i) (enc i)/\(enc i).oneCell' = ad:=λi=>by
  have h1:B.cells[off+mJ i]? = aa (av i):=by rw[<-Bt _ (Bu i)];exact hav i
  obtain⟨y,k1,k2,k3⟩:=ql _ _ h1;have:enc i=y:=by show(c[off+mJ i]?).getD undef=y;rw[k1];rfl
  rw[this];exact⟨k1,k2,k3⟩
 let wd:Nat->ak:=λi=>(cD (av i)).getD []
 have wK:∀i,cD (av i)=aa (wd i):=λi=>by
  obtain⟨p,q,h1,_⟩:=sT Br (lD i) (lD i);show cD (av i)=aa ((cD (av i)).getD []);rw[h1];rfl
 have Bw:∀i j,jF ce g cU (av i) (av j)=aa (K (wd i) (wd j)):=λi j=>by
  obtain⟨p,q,h1,h2,h3⟩:=sT Br (lD i) (lD j);rw[wK]at h1 h2;cases h1;cases h2
  exact h3
 have eg:∀args w,(callFunc g args).run P w = .ok (.enter g args) w:=by
  have h:=Bw 0 0;unfold jF at h;have hp:∃x,j7 ce g (av 0::av 0::cU)=aa x:=by
   split at h
   .rename_i c yy; exact⟨_,yy⟩
   .simp at h
  obtain⟨x,hp⟩:=hp;unfold j7 at hp;split at hp
  case isFalse=>simp at hp
  cases hc:ce g ((av 0::av 0::cU).map wk) []with
  |none=>rw[hc]at hp;simp at hp
  |some r=>exact Ay (Ag g _ _ r hc)
 have Bx:=(kV.1 hH).1;have wL:Holds enc w (ids b) off (Array.range len):=λj hj=>by
  simp only[ux]at hj;have hj0:mJ j=j:=by show min j (len-1)=j;omega
  have h1:=(Bv j).1;rw[hj0]at h1;refine⟨?_,?_⟩
  .simp only[World.cell?,hH]
   rw[getElem!_def,Array.getElem?_range,aD hj];simpa using h1
  .simp[World.frozen?,hH]
 have key:=Any.slices_SortFunc L enc (λi=>(Bv i).2.2) (λi j=>K (wd i) (wd j)) (aiP hK wd) g cb.toArray (ids b) off cap (Array.range len) w eg
  (aiN sg hg N2 Zq (λi=>(Bv i).2.1) Bw) wL Bx (by simp[eE]at qk ⊢;omega)
 simp only[ux]at key;rw[e1,e2];refine key.mono ?_;rintro e w' ⟨rfl,d', n,os,hp,hs,rfl⟩;obtain⟨p1,_,p3⟩:=hp;simp only[ux]at p1 p3;have By:d'.toList.Perm (af len):=by
  have e3:(d'.extract 0 len).toList=d'.toList:=by rw[<-p1];simp
  have e4:((Array.range len).extract 0 len).toList=af len:=by
   have:(Array.range len).extract 0 len=Array.range len:=by
    have:=Array.extract_size (xs:=Array.range len)
    rwa [ux]at this
   rw[this];simp
  rw[e3,e4]at p3;exact p3
 have Bz:(af len).map av=D:=by
  apply List.ext_getElem? λi=>?_;rw[gP]
  by_cases hi:i<len
  .rw[wj hi]
   have:=hav i;rw[show mJ i=i by show min i (len-1)=i;omega]at this
   rw[this];rfl
  .rw[il aT,il ax];rfl
 have xV:d'.toList.map av=eU K D:=by
  refine Pq hK (λx hx=>?_) (by rw[<-Bz];exact By.map av) ?_
  .obtain⟨p,q,h1,_⟩:=sT Br hx hx
   exact⟨p,h1⟩
  .rw[List.pairwise_map,rI]
   intro i j hi hj xW;simp only[pB]at hi hj;have:=hs i j (Nat.zero_le _) xW ax
   rw[getElem!_pos d' j hj,getElem!_pos d' i hi]at this;simp only[ltOf,yM,Int.not_lt]at this;rw[sS (wK _) (wK _),hK.gV];simp only[Array.getElem_toList];omega
 have Sz:ah (eU K D)=len:=by rw[<-xV];simp[p1]
 obtain⟨g1,g2⟩:=yE (vals:=d'.toList.map enc) (new:=eU K D) (off:=off) hg dF kC (pC (u:=0) hb) hH ax (by rw[Sz];simp[p1]) (λi q hi=>by
  rw[<-xV,gP]at hi;cases hd:d'.toList[i]? with
  |none=>rw[hd]at hi;simp at hi
  |some k=>
   rw[hd]at hi;simp at hi;subst hi;exact⟨enc k,by rw[gP,hd];rfl,(Bv k).2.1,(Bv k).2.2⟩)
 obtain⟨pl,_⟩:=uj B.cells (eU K D) off ax
 have ji:=rC (ids:=ids) (I:=I) (id' :=ids b) (B' :=⟨B.k,putAt B.cells off (eU K D),B.st⟩) hb rp;have qm:(λq=>if q=b then ids b else ids q)=ids:=lf
 rw[qm]at ji;obtain⟨f1,f2⟩:=Good.shrink (C2:=aI (aV σ b ⟨B.k,putAt B.cells off (eU K D),B.st⟩) ids I) g1 rfl (λb1 u1 e1 h1=>by
  have:=ji b1 u1 e1 h1;simp only[pl]at this;exact this) (λb1 u1 h1=>rD (ids:=ids) (I:=I) hb (by show (ah B.cells)<=ah (putAt B.cells off (eU K D));rw[pl];exact bG _) b1 u1 h1)
 obtain⟨r1,r2⟩:=aiO (enc:=enc) (off:=off) (n:=n) (os:=os) (d' :=d') hH (by rw[p1];omega)
 have gd:∀k,k<(w.setRow (ids b) (c.toList.take off++d'.toList.map enc++c.toList.drop (off+ah (d'.toList.map enc))).toArray).heap.size->(sortWorld enc w (ids b) off n d' os).heap[k]? = (w.setRow (ids b) (c.toList.take off++d'.toList.map enc++c.toList.drop (off+ah (d'.toList.map enc))).toArray).heap[k]?:=λk hk=>r2 k (by rwa [py]at hk)
 obtain⟨q1,q2⟩:=f1.qh r1 gd I (λ_ h=>h) (λk hk=>Nat.lt_of_lt_of_le (f1.I k hk) r1) (λk hk=>.inl hk) rfl ⟨rfl,by show w.drawn<=w.drawn+n;omega⟩ rfl
 exact⟨_,ids,I,rfl,q1,oH,(g2.trans f2).trans q2⟩
def aiQ(L:SlLaysF.n6 P ρ){f:Nat}(M:ρ.f 6=f) (N:dm P f=ad):fH P f nq:=by
 subst M;refine⟨N,λce o q args s r O h ids I w U z x=>?_⟩;have d:∀(m:Value) (p:Option Addr) (cap:Nat),Calls P (ρ.f 6) #[.slice p 0 cap,m] w λe y =>∃v j A, e = .returned v/\Good (aI s j A) y /\VR (aI s j A) y.heap (.bY []) v/\Step (aI s ids I) w (aI s j A) y :=λm p cap=>by
  refine(AnyF.slices_SortFunc_none (P:=P) (ρ:=ρ) {L with} p cap m w).mono ?_
  rintro e y ⟨rfl,rfl⟩;exact⟨_,ids,I,rfl,z,oH,Step.refl _ _⟩
 unfold nq at h;split at h
 .simp only[ct,Prod.mk.injEq]at h
  obtain⟨rfl,rfl⟩:=h;obtain⟨D,Q,rfl,i,m,R,rfl,C,rfl⟩:=x;have i:D = .slice ab 0 0:=i;subst i;exact d m ab 0
 .simp only[ct,Prod.mk.injEq]at h
  obtain⟨rfl,rfl⟩:=h;obtain⟨D,Q,rfl,i,m,R,rfl,C,rfl⟩:=x;unfold VR at i;rcases i.2 with⟨_,a,rfl,_⟩|⟨aQ,off,cap,st,c,el,V,rfl,_⟩
  .exact d m a 0
  .exact d m _ cap
 .rename_i b u off len g cU
  split at h
  .rename_i B E
   split at h
   .rename_i F
    simp only[bd,fy]at F;obtain⟨⟨⟨⟨S,T⟩,G⟩,H⟩,J⟩:=F;have l:B.st = .live:=by revert S;cases B.st<;>simp[fR.isLive]
    have K:B.k=ab:=by revert T;cases B.k<;>simp[iS]
    split at h
    .rename_i n
     simp only[ct,Prod.mk.injEq]at h;obtain⟨rfl,rfl⟩:=h;exact Sy L o q dO E l K G H J n z x
    .split at h
     .rename_i n
      simp only[ct,Prod.mk.injEq]at h;obtain⟨rfl,rfl⟩:=h;exact Sy L o q Pn E l K G H J n z x
     .simp at h
   .simp at h
  .simp at h
 .simp at h
end Ab
