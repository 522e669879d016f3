/- slices.SortFunc, at words under an order of words, does what the small language says. Condition: the library's own text, as the kit's contract has walked it. -/
import Derived.Test.YtdenhmniigikcaaGreatAbC
import Derived.Test.YtdenhmniigikcaaGreatAbSortM
import Derived.Shelf.SlSortCmp.NoneTotal
set_option linter.all false
namespace Ab
open Go Go.Proofs Go.Shelf Go.Sort
variable{P:Program}
def ahc{W w' : World}(j:W.heap.size<=w'.heap.size) (b:∀k,k<W.heap.size->w'.heap[k]? = W.heap[k]?) (e:w'.os=W.os) (a:w'.tape=W.tape/\W.drawn<=w'.drawn) (g:w'.output=W.output) :
  w' = grow (W.drewN (w'.drawn-W.drawn)) (w'.heap.extract W.heap.size w'.heap.size):=by
 obtain⟨H,t,d,o,u⟩:=W;obtain⟨l, n, p, q, r⟩:=w';simp only at j b e a g;obtain⟨rfl,a⟩:=a;subst e;subst g;simp only[grow,World.drewN,World.mk.injEq,true_and,and_true];refine⟨?_,aa⟩
 apply Array.ext_getElem?;intro i
 by_cases h:i<H.size
 .rw[lq h,b i h]
 .rw[um aa,Array.getElem?_extract]
  by_cases m : i<l.size
  .rw[ae aa,show H.size+(i-H.size)=i by omega]
  .rw[ad aa,Array.getElem?_eq_none aa]
variable{α:Type}{w:World}{id off m:Nat}{os:Array Obj}
def QT [Inhabited α]{enc:α->Value}{a:Array α}:(sortWorld enc w id off m a os).heap.size=w.heap.size+os.size:=by
 simp[sortWorld,grow,putRow,mapBlock,«Sort».ahead]
def QU [Inhabited α]{enc:α->Value}{a:Array α}{k:Nat}(h:k<w.heap.size) (b:k ≠ id):(sortWorld enc w id off m a os).heap[k]? = w.heap[k]?:=by
 simp only[sortWorld,grow,putRow,mapBlock,«Sort».ahead];rw[lq cq,sD,ad aa]
variable{ce:CE}{g len:Nat}{cz:List AV}{enc:Nat->Value}
def ahd(p:cw P ce){C:Ctx}{cb:List Value}(D:Good C w) (q:cj C w.heap cz cb)(r:¬C.I id)
  {av:Nat->AV}  {cf:Nat->Nat->Int} (E:∀i,VR C w.heap (av i) (enc i)) (F:∀i j,iM ce g cz (av i) (av j)=some (cf i j)) :
  CmpLays1 P g cb.toArray enc cf id off len w:=by
 intro m os n J x y;have h:=F x y;unfold iM at h;have o:jq ce g (av x::av y::cz)=some (.int (cf x y)):=by
  split at h
  .rename_i c s; simp at h;subst h;exact s
  .simp at h
 have G:aC (av x::av y::cz)=true:=by
  unfold jq at o;split at o
  .assumption
  .simp at o
 have a:∀k,C.I k->(sortWorld enc w id off m n os).heap[k]? = w.heap[k]?:=λk d=>QU (D.I k d) λe=>r (e▸d);have z : Good (af [] (λ_=>0) C.I) (sortWorld enc w id off m n os):=
  ⟨λk d=>by rw[QT];have:=D.I k d;omega,λb u B i h=>fV,λb u B i h=>fV,λb u B i K L M N h=>fV,λb u B i es h=>fV⟩
 have A:cj (af [] (λ_=>0) C.I) (sortWorld enc w id off m n os).heap (av x::av y::cz) (enc x::enc y::cb):=
  cj.free (show oU C w.heap (af [] (λ_=>0) C.I) (sortWorld enc w id off m n os).heap from⟨λ_ h=>h,a⟩) _ _ G ⟨_,_,rfl,E x,_,_,rfl,E y,q⟩
 have key:=yn p o z A;rw[show #[enc x,enc y]++cb.toArray=(enc x::enc y::cb).toArray by simp]
 refine key.mono ?_;rintro e O ⟨v,rfl,Q, R,l,H⟩;refine⟨by rw[H.bt],_,_,ahc l.size (λk d=>l.frame k d nW) l.os l.tape l.output⟩
def ahe{n:Nat}{d' : Array Nat}{c:Array Value}{el:TypeId}(d:w.heap[id]? = some (.cells c el (0,0))) (g:off+d'.size<=c.size) :
  (w.setRow id (c.toList.take off++d'.toList.map enc++c.toList.drop (off+(d'.toList.map enc).length)).toArray).heap.size<=(sortWorld enc w id off n d' os).heap.size/\
  ∀k,k<w.heap.size->(sortWorld enc w id off n d' os).heap[k]? = (w.setRow id (c.toList.take off++d'.toList.map enc++c.toList.drop (off+(d'.toList.map enc).length)).toArray).heap[k]?:=by
 refine⟨by rw[od,QT];omega,λk h=>?_⟩
 by_cases e:k=id
 .subst e
  rw[setRow_heap w k c _ el (0,0) d];simp only[sortWorld,grow,putRow,mapBlock,«Sort».ahead];rw[lq cq,sD,ae rfl,d]
  simp only[mS,onCells,bT,lC,and_true];apply Array.ext_getElem?;intro i;have a:∀L:List Value,L.toArray[i]? = L[i]?:=λL=>ab
  rw[a (c.toList.take off++d'.toList.map enc++c.toList.drop (off+(d'.toList.map enc).length))];simp only[putCells,Array.getElem?_mapIdx,dA,oh]
  by_cases j:i<off
  .rw[gZ,eJ ax,uz,ae j,ja]
   cases l:c[i]? with
   |none=>rfl
   |some v=>simp;omega
  .by_cases m:i<off+d'.size
   .rw[eJ ax,gA ax,iv]
    have b:i<c.size:=aa
    rw[lB b];simp only[og,oh,mS];rw[ae aa,show min off c.size=off by omega,ja,lB aa]
    simp[getElem!_def,lB (show i-off<d'.size by omega)]
   .rw[gA ax,mP,ja]
    simp only[aU,og,oh,dA];rw[show off+d'.size+(i-(min off c.size+d'.size))=i by omega]
    cases l:c[i]? with
    |none=>rfl
    |some v=>simp;omega
 .rw[QU h e,ki w id _ e]
variable{K:List Int->List Int->Int}
def ahf(a:BE K) (wd:Nat->List Int):SWO (ltOf λi j=>K (wd i) (wd j)) where
 irrefl x:=by simp[ltOf,a.refl]
 trans x y z h1 h2:=by
  simp only[ltOf,eo]at *;have a1:=a.trans (wd x) (wd y) (wd z) aa aa
  rcases Int.lt_or_eq_of_le a1 with h|h
  .exact h
  .exfalso
   have e:=a.eq _ _ h;rw[e,a.fL]at h1;omega
 ntrans x y z h1 h2:=by
  simp only[ltOf,uA,Int.not_lt]at *;have a1:=a.fL (wd x) (wd y);have a2:=a.fL (wd y) (wd z);have b:=a.fL (wd x) (wd z);have:=a.trans (wd z) (wd y) (wd x) aa aa
  omega
variable{ρ:Ren}
def QV(L:SlLaysF.n6 P ρ)(qT:cw P ce) (xW:dZ P ce)(hK:BE K){b u:Nat}{σ:List al}{B:al}(hu:upto σ b u=some B) (jM:B.st = .live) (hk:B.k=none) (hlen:0<len) (yy:off+len<=B.cells.length) (oX:B.cells.length<=dK)
  (zi:agree ce g cz K ((B.cells.drop off).take len)=true) {ids:Nat->Nat} {I:Nat->Prop}  {vs:List Value} (hg:Good (af σ ids I) w) (hv:cj (af σ ids I) w.heap [.sl b u off len,.func g cz] vs) :
  Calls P (ρ.f 6) vs.toArray w λe w' =>∃v bY I', e = .returned v/\Good (af (ar σ b ⟨B.k,putAt B.cells off (ee K ((B.cells.drop off).take len)),B.st⟩) bY I') w' /\VR (af (ar σ b ⟨B.k,putAt B.cells off (ee K ((B.cells.drop off).take len)),B.st⟩) bY I') w'.heap (.bM []) v/\
   Step (af σ ids I) w (af (ar σ b ⟨B.k,putAt B.cells off (ee K ((B.cells.drop off).take len)),B.st⟩) bY I') w' :=by
 obtain⟨hb,qc,qS⟩:=sI hu;have da:=nX ids I hu;subst qc;obtain⟨v1,s1,rfl,qV,v2,s2,rfl,AT,rfl⟩:=hv;unfold VR at qV AT;have qV:=qV.2.2 B _ da;rw[jM]at qV;obtain⟨c,el,o,cap,hH,e1,yE,Za,xT⟩:=qV;rw[yE aa]at e1
 obtain⟨cb,e2,B5⟩:=AT;obtain⟨Ez,c', AM, wq, hle,oY⟩:=hg.live b _ B _ da jM;rw[hH]at wq;simp only[bT,lC]at wq;obtain⟨rfl,rfl,_⟩:=wq;generalize hD:(B.cells.drop off).take len=D at zi ⊢;have hDl:D.length=len:=by rw[<-hD];simp;omega
 have zj:∀i,i<len->D[i]? = B.cells[off+i]?:=λi hi=>by rw[<-hD,uz,ae hi,mP]
 let lM:Nat->Nat:=λi=>min i (len-1)
 have zk:∀i,lM i<len:=λi=>by show min i (len-1)<len;omega
 have hex:∀i,∃x,D[lM i]? = some x:=λi=>⟨_,db (by rw[hDl];exact zk i)⟩
 let av:Nat->AV:=λi=>(D[lM i]?).getD .aO
 have hav:∀i,D[lM i]? = some (av i):=λi=>by obtain⟨x,hx⟩:=hex i;show _=some ((D[lM i]?).getD .aO);rw[hx];rfl
 have qw:∀i,av i∈D:=λi=>uo.2 ⟨_,hav i⟩
 let enc:Nat->Value:=λi=>(c[off+lM i]?).getD undef
 have zl:∀i,c[off+lM i]? = some (enc i)/\VR (af σ ids I) w.heap (av i) (enc i)/\(enc i).oneCell' = true:=λi=>by
  have h1:B.cells[off+lM i]? = some (av i):=by rw[<-zj _ (zk i)];exact hav i
  obtain⟨y,k1,k2,k3⟩:=oY _ _ h1;have:enc i=y:=by show(c[off+lM i]?).getD undef=y;rw[k1];rfl
  rw[this];exact⟨k1,k2,k3⟩
 let wd:Nat->List Int:=λi=>(cd (av i)).getD []
 have EI:∀i,cd (av i)=some (wd i):=λi=>by
  obtain⟨p,q,h1,_⟩:=rD zi (qw i) (qw i);show cd (av i)=some ((cd (av i)).getD []);rw[h1];rfl
 have zm:∀i j,iM ce g cz (av i) (av j)=some (K (wd i) (wd j)):=λi j=>by
  obtain⟨p,q,h1,h2,h3⟩:=rD zi (qw i) (qw j);rw[EI]at h1 h2;cases h1;cases h2
  exact h3
 have eg:∀args w,(callFunc g args).run P w = .ok (.enter g args) w:=by
  have h:=zm 0 0;unfold iM at h;have hp:∃x,jq ce g (av 0::av 0::cz)=some x:=by
   split at h
   .rename_i c yq; exact⟨_,yq⟩
   .simp at h
  obtain⟨x,hp⟩:=hp;unfold jq at hp;split at hp
  case isFalse=>simp at hp
  cases hc:ce g ((av 0::av 0::cz).map wk) []with
  |none=>rw[hc]at hp;simp at hp
  |some r=>exact yp (xW g _ _ r hc)
 have zn:=(ke.1 hH).1;have uR:Holds enc w (ids b) off (Array.range len):=λj hj=>by
  simp only[sT]at hj;have hj0:lM j=j:=by show min j (len-1)=j;omega
  have h1:=(zl j).1;rw[hj0]at h1;refine⟨?_,?_⟩
  .simp only[World.cell?,hH]
   rw[getElem!_def,Array.getElem?_range,ae hj];simpa using h1
  .simp[World.frozen?,hH]
 have key:=Any.slices_SortFunc L enc (λi=>(zl i).2.2) (λi j=>K (wd i) (wd j)) (ahf hK wd) g cb.toArray (ids b) off cap (Array.range len) w eg
  (ahd qT hg B5 Ez (λi=>(zl i).2.1) zm) uR zn (by simp[dK]at oX ⊢;omega)
 simp only[sT]at key;rw[e1,e2];refine key.mono ?_;rintro e w' ⟨rfl,d', n,os,hp,hs,rfl⟩;obtain⟨p1,_,p3⟩:=hp;simp only[sT]at p1 p3;have zo:d'.toList.Perm (List.range len):=by
  have e3:(d'.extract 0 len).toList=d'.toList:=by rw[<-p1];simp
  have e4:((Array.range len).extract 0 len).toList=List.range len:=by
   have:(Array.range len).extract 0 len=Array.range len:=by
    have:=Array.extract_size (xs:=Array.range len)
    rwa [sT]at this
   rw[this];simp
  rw[e3,e4]at p3;exact p3
 have zp:(List.range len).map av=D:=by
  apply List.ext_getElem? λi=>?_;rw[iv]
  by_cases hi:i<len
  .rw[List.getElem?_range hi]
   have:=hav i;rw[show lM i=i by show min i (len-1)=i;omega]at this
   rw[this];rfl
  .rw[jg ax,jg aa];rfl
 have vQ:d'.toList.map av=ee K D:=by
  refine NP hK (λx hx=>?_) (by rw[<-zp];exact zo.map av) ?_
  .obtain⟨p,q,h1,_⟩:=rD zi hx hx
   exact⟨p,h1⟩
  .rw[List.pairwise_map,qm]
   intro i j hi hj vR;simp only[oh]at hi hj;have:=hs i j (Nat.zero_le _) vR aa
   rw[getElem!_pos d' j hj,getElem!_pos d' i hi]at this;simp only[ltOf,uA,Int.not_lt]at this;rw[rC (EI _) (EI _),hK.fL];simp only[Array.getElem_toList];omega
 have QW:(ee K D).length=len:=by rw[<-vQ];simp[p1]
 obtain⟨g1,g2⟩:=wz (vals:=d'.toList.map enc) (new:=ee K D) (off:=off) hg da jM (oo (u:=0) hb) hH aa (by rw[QW];simp[p1]) (λi q hi=>by
  rw[<-vQ,iv]at hi;cases hd:d'.toList[i]? with
  |none=>rw[hd]at hi;simp at hi
  |some k=>
   rw[hd]at hi;simp at hi;subst hi;exact⟨enc k,by rw[iv,hd];rfl,(zl k).2.1,(zl k).2.2⟩)
 obtain⟨pl,_⟩:=sH B.cells (ee K D) off aa
 have iK:=qd (ids:=ids) (I:=I) (id' :=ids b) (B' :=⟨B.k,putAt B.cells off (ee K D),B.st⟩) hb qS;have oZ:(λq=>if q=b then ids b else ids q)=ids:=km
 rw[oZ]at iK;obtain⟨f1,f2⟩:=Good.shrink (C2:=af (ar σ b ⟨B.k,putAt B.cells off (ee K D),B.st⟩) ids I) g1 rfl (λb1 u1 e1 h1=>by
  have:=iK b1 u1 e1 h1;simp only[pl]at this;exact this) (λb1 u1 h1=>qf (ids:=ids) (I:=I) hb (by show B.cells.length<=(putAt B.cells off (ee K D)).length;rw[pl];exact bd _) b1 u1 h1)
 obtain⟨r1,r2⟩:=ahe (enc:=enc) (off:=off) (n:=n) (os:=os) (d' :=d') hH (by rw[p1];omega)
 have fC:∀k,k<(w.setRow (ids b) (c.toList.take off++d'.toList.map enc++c.toList.drop (off+(d'.toList.map enc).length)).toArray).heap.size->(sortWorld enc w (ids b) off n d' os).heap[k]? = (w.setRow (ids b) (c.toList.take off++d'.toList.map enc++c.toList.drop (off+(d'.toList.map enc).length)).toArray).heap[k]?:=λk hk=>r2 k (by rwa [od]at hk)
 obtain⟨q1,q2⟩:=f1.oT r1 fC I (λ_ h=>h) (λk hk=>ui (f1.I k hk) r1) (λk hk=>.inl hk) rfl ⟨rfl,by show w.drawn<=w.drawn+n;omega⟩ rfl
 exact⟨_,ids,I,rfl,q1,mY,(g2.trans f2).trans q2⟩
def ahg(L:SlLaysF.n6 P ρ){f:Nat}(M:ρ.f 6=f) (N:cM P f=true):eS P f mb:=by
 subst M;refine⟨N,λce o q args s r O h ids I w U z x=>?_⟩;have d:∀(m:Value) (p:Option Addr) (cap:Nat),Calls P (ρ.f 6) #[.slice p 0 cap,m] w λe y =>∃v j A, e = .returned v/\Good (af s j A) y /\VR (af s j A) y.heap (.bM []) v/\Step (af s ids I) w (af s j A) y :=λm p cap=>by
  refine(AnyF.slices_SortFunc_none (P:=P) (ρ:=ρ) {L with} p cap m w).mono ?_
  rintro e y ⟨rfl,rfl⟩;exact⟨_,ids,I,rfl,z,mY,Step.refl _ _⟩
 unfold mb at h;split at h
 .simp only[bT,Prod.mk.injEq]at h
  obtain⟨rfl,rfl⟩:=h;obtain⟨D,Q,rfl,i,m,R,rfl,C,rfl⟩:=x;have i:D = .slice none 0 0:=i;subst i;exact d m none 0
 .simp only[bT,Prod.mk.injEq]at h
  obtain⟨rfl,rfl⟩:=h;obtain⟨D,Q,rfl,i,m,R,rfl,C,rfl⟩:=x;unfold VR at i;rcases i.2 with⟨_,a,rfl,_⟩|⟨aq,off,cap,st,c,el,V,rfl,_⟩
  .exact d m a 0
  .exact d m _ cap
 .rename_i b u off len g cz
  split at h
  .rename_i B E
   split at h
   .rename_i F
    simp only[aH,eo]at F;obtain⟨⟨⟨⟨S,T⟩,G⟩,H⟩,J⟩:=F;have l:B.st = .live:=by revert S;cases B.st<;>simp[fb.isLive]
    have K:B.k=none:=by revert T;cases B.k<;>simp[hZ]
    split at h
    .rename_i n
     simp only[bT,Prod.mk.injEq]at h;obtain⟨rfl,rfl⟩:=h;exact QV L o q cC E l K G H J n z x
    .split at h
     .rename_i n
      simp only[bT,Prod.mk.injEq]at h;obtain⟨rfl,rfl⟩:=h;exact QV L o q NM E l K G H J n z x
     .simp at h
   .simp at h
  .simp at h
 .simp at h
end Ab
