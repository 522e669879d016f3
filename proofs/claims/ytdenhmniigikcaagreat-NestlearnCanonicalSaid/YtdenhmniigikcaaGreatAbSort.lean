/- slices.SortFunc, at words under an order of words, does what the small language says. Condition: the library's own text, as the kit's contract has walked it. -/
import Derived.Test.YtdenhmniigikcaaGreatAbC
import Derived.Test.YtdenhmniigikcaaGreatAbSortM
import Derived.Shelf.SlSortCmp.NoneTotal
set_option linter.all false
namespace Ab
open Go Go.Proofs Go.Shelf Go.Sort
variable{P:Program}
theorem ael{W w' : World}(j:W.heap.size<=w'.heap.size) (b:∀k,k<W.heap.size->w'.heap[k]? = W.heap[k]?) (e:w'.os=W.os) (a:w'.tape=W.tape/\W.drawn<=w'.drawn) (g:w'.output=W.output) :
  w' = grow (W.drewN (w'.drawn-W.drawn)) (w'.heap.extract W.heap.size w'.heap.size):=by
 obtain⟨H,t,d,o,u⟩:=W;obtain⟨l, n, d', o', u'⟩:=w';simp only at j b e a g;obtain⟨rfl,a⟩:=a;subst e;subst g;simp only[grow,World.drewN,World.mk.injEq,true_and,and_true];refine⟨?_,by omega⟩
 apply Array.ext_getElem?;intro i
 by_cases h:i<H.size
 .rw[kq h,b i h]
 .rw[sN (by omega),Array.getElem?_extract]
  by_cases m : i<l.size
  .rw[ab (by omega),show H.size+(i-H.size)=i by omega]
  .rw[aa (by omega),Array.getElem?_eq_none (by omega)]
variable{α:Type}{w:World}{id off m:Nat}{os:Array Obj}
theorem Oj [Inhabited α]{enc:α->Value}{a:Array α}:(sortWorld enc w id off m a os).heap.size=w.heap.size+os.size:=by
 simp[sortWorld,grow,putRow,mapBlock,«Sort».ahead]
theorem Ol [Inhabited α]{enc:α->Value}{a:Array α}{k:Nat}(h:k<w.heap.size) (b:k ≠ id):(sortWorld enc w id off m a os).heap[k]? = w.heap[k]?:=by
 simp only[sortWorld,grow,putRow,mapBlock,«Sort».ahead];rw[kq (by simpa using h),qQ,aa (by omega)]
variable{ce:CE}{g len:Nat}{cc:List AV}{enc:Nat->Value}
theorem aem(p:ck P ce){C:Ctx}{cb:List Value}(D:Good C w) (q:bW C w.heap cc cb)(r:¬C.I id)
  {av:Nat->AV}  {cf:Nat->Nat->Int} (E:∀i,VR C w.heap (av i) (enc i)) (F:∀i j,gZ ce g cc (av i) (av j)=some (cf i j)) :
  CmpLays1 P g cb.toArray enc cf id off len w:=by
 intro m os n J x y;have h:=F x y;unfold gZ at h;have o:iE ce g (av x::av y::cc)=some (.int (cf x y)):=by
  split at h
  .rename_i c s; simp at h;subst h;exact s
  .simp at h
 have G:ax (av x::av y::cc)=true:=by
  unfold iE at o;split at o
  .assumption
  .simp at o
 have a:∀k,C.I k->(sortWorld enc w id off m n os).heap[k]? = w.heap[k]?:=λk d=>Ol (D.I k d) λe=>r (e▸d);have z : Good (ad [] (λ_=>0) C.I) (sortWorld enc w id off m n os):=
  ⟨λk d=>by rw[Oj];have:=D.I k d;omega,λb u B i h=>by simp[ad,ak]at h,λb u B i h=>by simp[ad,ak]at h,λb u B i K u' B' L h=>by simp[ad,ak]at h,λb u B i es h=>by simp[ad,ak]at h⟩
 have A:bW (ad [] (λ_=>0) C.I) (sortWorld enc w id off m n os).heap (av x::av y::cc) (enc x::enc y::cb):=
  bW.free (show nu C w.heap (ad [] (λ_=>0) C.I) (sortWorld enc w id off m n os).heap from⟨λ_ h=>h,a⟩) _ _ G ⟨_,_,rfl,E x,_,_,rfl,E y,q⟩
 have key:=wH p o z A;rw[show #[enc x,enc y]++cb.toArray=(enc x::enc y::cb).toArray by simp]
 refine key.mono ?_;rintro e w' ⟨v,rfl,I', M,l,H⟩;refine⟨by rw[H.ba],_,_,ael l.size (λk d=>l.frame k d mF) l.os l.tape l.output⟩
theorem aen{n:Nat}{d' : Array Nat}{c:Array Value}{el:TypeId}(d:w.heap[id]? = some (.cells c el (0,0))) (g:off+d'.size<=c.size) :
  (w.setRow id (c.toList.take off++d'.toList.map enc++c.toList.drop (off+(d'.toList.map enc).length)).toArray).heap.size<=(sortWorld enc w id off n d' os).heap.size/\
  ∀k,k<w.heap.size->(sortWorld enc w id off n d' os).heap[k]? = (w.setRow id (c.toList.take off++d'.toList.map enc++c.toList.drop (off+(d'.toList.map enc).length)).toArray).heap[k]?:=by
 refine⟨by rw[mJ,Oj];omega,λk h=>?_⟩
 by_cases e:k=id
 .subst e
  rw[setRow_heap w k c _ el (0,0) d];simp only[sortWorld,grow,putRow,mapBlock,«Sort».ahead];rw[kq (by simpa using h),qQ,ab rfl,d]
  simp only[l6,onCells,bJ,kv,and_true];apply Array.ext_getElem?;intro i;have a:∀L:List Value,L.toArray[i]? = L[i]?:=λL=>by simp
  rw[a (c.toList.take off++d'.toList.map enc++c.toList.drop (off+(d'.toList.map enc).length))];simp only[putCells,Array.getElem?_mapIdx,cY,mK]
  by_cases j:i<off
  .rw[iw,eC (by simp;omega),sU,ab j,iu]
   cases l:c[i]? with
   |none=>rfl
   |some v=>simp;omega
  .by_cases m:i<off+d'.size
   .rw[eC (by simp;omega),eK (by simp;omega),fS]
    have b:i<c.size:=by omega
    rw[ku b];simp only[nw,mK,l6];rw[ab (by omega),show min off c.size=off by omega,iu,ku (by omega)]
    simp[getElem!_def,ku (show i-off<d'.size by omega)]
   .rw[eK (by simp;omega),kz,iu]
    simp only[aY,nw,mK,cY];rw[show off+d'.size+(i-(min off c.size+d'.size))=i by omega]
    cases l:c[i]? with
    |none=>rfl
    |some v=>simp;omega
 .rw[Ol h e,jy w id _ e]
variable{K:List Int->List Int->Int}
theorem aeo(a:zS K) (wd:Nat->List Int):SWO (ltOf λi j=>K (wd i) (wd j)) where
 irrefl x:=by simp[ltOf,a.refl]
 trans x y z h1 h2:=by
  simp only[ltOf,dY]at *;have a1:=a.trans (wd x) (wd y) (wd z) (by omega) (by omega)
  rcases Int.lt_or_eq_of_le a1 with h|h
  .exact h
  .exfalso
   have e:=a.eq _ _ h;rw[e,a.gg]at h1;omega
 ntrans x y z h1 h2:=by
  simp only[ltOf,uV,Int.not_lt]at *;have a1:=a.gg (wd x) (wd y);have a2:=a.gg (wd y) (wd z);have b:=a.gg (wd x) (wd z);have:=a.trans (wd z) (wd y) (wd x) (by omega) (by omega)
  omega
variable{ρ:Ren}
theorem Om(L:SlLaysF.n6 P ρ)(pD:ck P ce) (zg:dX P ce)(hK:zS K){b u:Nat}{σ:List ah}{B:ah}(hu:upto σ b u=some B) (iV:B.st = .live) (hk:B.k=none) (hlen:0<len) (wS:off+len<=B.cells.length) (nA:B.cells.length<=dz)
  (xD:agree ce g cc K ((B.cells.drop off).take len)=true) {ids:Nat->Nat} {I:Nat->Prop}  {vs:List Value} (hg:Good (ad σ ids I) w) (hv:bW (ad σ ids I) w.heap [.sl b u off len,.func g cc] vs) :
  Calls P (ρ.f 6) vs.toArray w λe w' =>∃v bO I', e = .returned v/\Good (ad (ar σ b ⟨B.k,putAt B.cells off (dP K ((B.cells.drop off).take len)),B.st⟩) bO I') w' /\VR (ad (ar σ b ⟨B.k,putAt B.cells off (dP K ((B.cells.drop off).take len)),B.st⟩) bO I') w'.heap (.bF []) v/\
   Step (ad σ ids I) w (ad (ar σ b ⟨B.k,putAt B.cells off (dP K ((B.cells.drop off).take len)),B.st⟩) bO I') w' :=by
 obtain⟨hb,qT,pC⟩:=qV hu;have fH:=mG ids I hu;subst qT;obtain⟨v1,s1,rfl,pG,v2,s2,rfl,zi,rfl⟩:=hv;unfold VR at pG zi;have pG:=pG.2.2 B _ fH;rw[iV]at pG;obtain⟨c,el,o,cap,hH,e1,wX,VZ,wa⟩:=pG;rw[wX (by omega)]at e1
 obtain⟨cb,e2,J2⟩:=zi;obtain⟨Uo,c', zb, uL, hle,nD⟩:=hg.live b _ B _ fH iV;rw[hH]at uL;simp only[bJ,kv]at uL;obtain⟨rfl,rfl,_⟩:=uL;generalize hD:(B.cells.drop off).take len=D at xD ⊢;have hDl:D.length=len:=by rw[<-hD];simp;omega
 have xE:∀i,i<len->D[i]? = B.cells[off+i]?:=λi hi=>by rw[<-hD,sU,ab hi,kz]
 let kG:Nat->Nat:=λi=>min i (len-1)
 have xF:∀i,kG i<len:=λi=>by show min i (len-1)<len;omega
 have hex:∀i,∃x,D[kG i]? = some x:=λi=>⟨_,cO (by rw[hDl];exact xF i)⟩
 let av:Nat->AV:=λi=>(D[kG i]?).getD .aF
 have EE:∀i,D[kG i]? = some (av i):=λi=>by obtain⟨x,hx⟩:=hex i;show _=some ((D[kG i]?).getD .aF);rw[hx];rfl
 have vh:∀i,av i∈D:=λi=>sO.2 ⟨_,EE i⟩
 let enc:Nat->Value:=λi=>(c[off+kG i]?).getD undef
 have xG:∀i,c[off+kG i]? = some (enc i)/\VR (ad σ ids I) w.heap (av i) (enc i)/\(enc i).oneCell' = true:=λi=>by
  have h1:B.cells[off+kG i]? = some (av i):=by rw[<-xE _ (xF i)];exact EE i
  obtain⟨y,k1,k2,k3⟩:=nD _ _ h1;have:enc i=y:=by show(c[off+kG i]?).getD undef=y;rw[k1];rfl
  rw[this];exact⟨k1,k2,k3⟩
 let wd:Nat->List Int:=λi=>(bS (av i)).getD []
 have CQ:∀i,bS (av i)=some (wd i):=λi=>by
  obtain⟨p,q,h1,_⟩:=qd xD (vh i) (vh i);show bS (av i)=some ((bS (av i)).getD []);rw[h1];rfl
 have xH:∀i j,gZ ce g cc (av i) (av j)=some (K (wd i) (wd j)):=λi j=>by
  obtain⟨p,q,h1,h2,h3⟩:=qd xD (vh i) (vh j);rw[CQ]at h1 h2;cases h1;cases h2
  exact h3
 have eg:∀args w,(callFunc g args).run P w = .ok (.enter g args) w:=by
  have h:=xH 0 0;unfold gZ at h;have hp:∃x,iE ce g (av 0::av 0::cc)=some x:=by
   split at h
   .rename_i c wL; exact⟨_,wL⟩
   .simp at h
  obtain⟨x,hp⟩:=hp;unfold iE at hp;split at hp
  case isFalse=>simp at hp
  cases hc:ce g ((av 0::av 0::cc).map wk) []with
  |none=>rw[hc]at hp;simp at hp
  |some r=>exact wK (zg g _ _ r hc)
 have xI:=(ju.1 hH).1;have tp:Holds enc w (ids b) off (Array.range len):=λj hj=>by
  simp only[re]at hj;have hj0:kG j=j:=by show min j (len-1)=j;omega
  have h1:=(xG j).1;rw[hj0]at h1;refine⟨?_,?_⟩
  .simp only[World.cell?,hH]
   rw[getElem!_def,Array.getElem?_range,ab hj];simpa using h1
  .simp[World.frozen?,hH]
 have key:=Any.slices_SortFunc L enc (λi=>(xG i).2.2) (λi j=>K (wd i) (wd j)) (aeo hK wd) g cb.toArray (ids b) off cap (Array.range len) w eg
  (aem pD hg J2 Uo (λi=>(xG i).2.1) xH) tp xI (by simp[dz]at nA ⊢;omega)
 simp only[re]at key;rw[e1,e2];refine key.mono ?_;rintro e w' ⟨rfl,d', n,os,hp,hs,rfl⟩;obtain⟨p1,_,p3⟩:=hp;simp only[re]at p1 p3;have xJ:d'.toList.Perm (List.range len):=by
  have e3:(d'.extract 0 len).toList=d'.toList:=by rw[<-p1];simp
  have e4:((Array.range len).extract 0 len).toList=List.range len:=by
   have:(Array.range len).extract 0 len=Array.range len:=by
    have:=Array.extract_size (xs:=Array.range len)
    rwa [re]at this
   rw[this];simp
  rw[e3,e4]at p3;exact p3
 have xL:(List.range len).map av=D:=by
  apply List.ext_getElem? λi=>?_;rw[fS]
  by_cases hi:i<len
  .rw[qi hi]
   have:=EE i;rw[show kG i=i by show min i (len-1)=i;omega]at this
   rw[this];rfl
  .rw[jh (by simp;omega),jh (by omega)];rfl
 have uq:d'.toList.map av=dP K D:=by
  refine Lf hK (λx hx=>?_) (by rw[<-xL];exact xJ.map av) ?_
  .obtain⟨p,q,h1,_⟩:=qd xD hx hx
   exact⟨p,h1⟩
  .rw[List.pairwise_map,qj]
   intro i j hi hj ur;simp only[mK]at hi hj;have:=hs i j (Nat.zero_le _) ur (by omega)
   rw[getElem!_pos d' j hj,getElem!_pos d' i hi]at this;simp only[ltOf,uV,Int.not_lt]at this;rw[qc (CQ _) (CQ _),hK.gg];simp only[Array.getElem_toList];omega
 have On:(dP K D).length=len:=by rw[<-uq];simp[p1]
 obtain⟨g1,g2⟩:=uN (vals:=d'.toList.map enc) (new:=dP K D) (off:=off) hg fH iV (mM (u:=0) hb) hH (by omega) (by rw[On];simp[p1]) (λi q hi=>by
  rw[<-uq,fS]at hi;cases hd:d'.toList[i]? with
  |none=>rw[hd]at hi;simp at hi
  |some k=>
   rw[hd]at hi;simp at hi;subst hi;exact⟨enc k,by rw[fS,hd];rfl,(xG k).2.1,(xG k).2.2⟩)
 obtain⟨pl,_⟩:=qU B.cells (dP K D) off (by omega)
 have iy:=oR (ids:=ids) (I:=I) (id' :=ids b) (B' :=⟨B.k,putAt B.cells off (dP K D),B.st⟩) hb pC;have nE:(λq=>if q=b then ids b else ids q)=ids:=by funext q;split<;>simp_all
 rw[nE]at iy;obtain⟨f1,f2⟩:=Good.shrink (C2:=ad (ar σ b ⟨B.k,putAt B.cells off (dP K D),B.st⟩) ids I) g1 rfl (λb1 u1 e1 h1=>by
  have:=iy b1 u1 e1 h1;simp only[pl]at this;exact this) (λb1 u1 h1=>oS (ids:=ids) (I:=I) hb (by show B.cells.length<=(putAt B.cells off (dP K D)).length;rw[pl];exact aT _) b1 u1 h1)
 obtain⟨r1,r2⟩:=aen (enc:=enc) (off:=off) (n:=n) (os:=os) (d' :=d') hH (by rw[p1];omega)
 have kW:∀k,k<(w.setRow (ids b) (c.toList.take off++d'.toList.map enc++c.toList.drop (off+(d'.toList.map enc).length)).toArray).heap.size->(sortWorld enc w (ids b) off n d' os).heap[k]? = (w.setRow (ids b) (c.toList.take off++d'.toList.map enc++c.toList.drop (off+(d'.toList.map enc).length)).toArray).heap[k]?:=λk hk=>r2 k (by rwa [mJ]at hk)
 obtain⟨q1,q2⟩:=f1.nq r1 kW I (λ_ h=>h) (λk hk=>sH (f1.I k hk) r1) (λk hk=>.inl hk) rfl ⟨rfl,by show w.drawn<=w.drawn+n;omega⟩ rfl
 exact⟨_,ids,I,rfl,q1,by unfold VR;exact⟨[],rfl,rfl⟩,(g2.trans f2).trans q2⟩
theorem aep(L:SlLaysF.n6 P ρ){f:Nat}(H:ρ.f 6=f) (J:cz P f=true):et P f kZ:=by
 subst H;refine⟨J,λce o q args σ r K h ids I w vs x s=>?_⟩;have d:∀(m:Value) (p:Option Addr) (cap:Nat),Calls P (ρ.f 6) #[.slice p 0 cap,m] w λe w' =>∃v j I', e = .returned v/\Good (ad σ j I') w' /\VR (ad σ j I') w'.heap (.bF []) v/\Step (ad σ ids I) w (ad σ j I') w' :=λm p cap=>by
  refine(AnyF.slices_SortFunc_none (P:=P) (ρ:=ρ) {L with} p cap m w).mono ?_
  rintro e w' ⟨rfl,rfl⟩;exact⟨_,ids,I,rfl,x,by unfold VR;exact⟨[],rfl,rfl⟩,Step.refl _ _⟩
 unfold kZ at h;split at h
 .simp only[bJ,Prod.mk.injEq]at h
  obtain⟨rfl,rfl⟩:=h;obtain⟨z,M,rfl,i,m,N,rfl,y,rfl⟩:=s;have i:z = .slice none 0 0:=i;subst i;exact d m none 0
 .simp only[bJ,Prod.mk.injEq]at h
  obtain⟨rfl,rfl⟩:=h;obtain⟨z,M,rfl,i,m,N,rfl,y,rfl⟩:=s;unfold VR at i;rcases i.2 with⟨_,a,rfl,_⟩|⟨ak,off,cap,st,c,el,R,rfl,_⟩
  .exact d m a 0
  .exact d m _ cap
 .rename_i b u off len g cc
  split at h
  .rename_i B A
   split at h
   .rename_i C
    simp only[aA,dY]at C;obtain⟨⟨⟨⟨O,Q⟩,D⟩,E⟩,F⟩:=C;have l:B.st = .live:=by revert O;cases B.st<;>simp[eM.isLive]
    have G:B.k=none:=by revert Q;cases B.k<;>simp[gv]
    split at h
    .rename_i n
     simp only[bJ,Prod.mk.injEq]at h;obtain⟨rfl,rfl⟩:=h;exact Om L o q dE A l G D E F n x s
    .split at h
     .rename_i n
      simp only[bJ,Prod.mk.injEq]at h;obtain⟨rfl,rfl⟩:=h;exact Om L o q Lc A l G D E F n x s
     .simp at h
   .simp at h
  .simp at h
 .simp at h
end Ab
