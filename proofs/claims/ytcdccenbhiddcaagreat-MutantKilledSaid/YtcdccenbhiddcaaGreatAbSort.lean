/- slices.SortFunc, at words under an order of words, does what the small language says. Condition: the library's own text, as the kit's contract has walked it. -/
import Derived.Test.YtcdccenbhiddcaaGreatAbC
import Derived.Test.YtcdccenbhiddcaaGreatAbSortM
import Derived.Shelf.SlSortCmp.NoneTotal
set_option linter.all false
namespace Ab
open Go Go.Proofs Go.Shelf Go.Sort
variable{P:Program}
def Uj{W w' : World}(h:W.heap.size<=w'.heap.size) (b:∀k,k<W.heap.size->w'.heap[k]? = W.heap[k]?) (e:w'.os=W.os) (a:w'.tape=W.tape/\W.drawn<=w'.drawn) (f:w'.output=W.output) :
  w' = grow (W.drewN (w'.drawn-W.drawn)) (w'.heap.extract W.heap.size w'.heap.size):=by
 obtain⟨H,t,d,o,u⟩:=W;obtain⟨j, m, n, p, q⟩:=w';simp only at h b e a f;obtain⟨rfl,a⟩:=a;subst e;subst f;simp only[grow,World.drewN,World.mk.injEq,true_and,and_true];refine⟨?_,aa⟩
 apply Array.ext_getElem?;intro i
 by_cases g:i<H.size
 .rw[kL g,b i g]
 .rw[Array.getElem?_append_right aa,Array.getElem?_extract]
  by_cases l : i<j.size
  .rw[ah aa,show H.size+(i-H.size)=i by omega]
  .rw[ae aa,Array.getElem?_eq_none aa]
variable{α:Type}{w:World}{id off m:Nat}{os:Array Obj}
def FX [Inhabited α]{enc:α->Value}{a:Array α}:(sortWorld enc w id off m a os).heap.size=w.heap.size+os.size:=by
 simp[sortWorld,grow,putRow,mapBlock,«Sort».ahead]
def FY [Inhabited α]{enc:α->Value}{a:Array α}{k:Nat}(h:k<w.heap.size) (b:k ≠ id):(sortWorld enc w id off m a os).heap[k]? = w.heap[k]?:=by
 simp only[sortWorld,grow,putRow,mapBlock,«Sort».ahead];rw[kL ch,Array.getElem?_modify,ae aa]
variable{ce:CE}{g len:Nat}{cT:List AV}{enc:Nat->Value}
def Uk(p:bn P ce){C:Ctx}{f:List Value}(E:Good C w) (q:bm C w.heap cT f)(r:¬C.I id)
  {av:Nat->AV}  {s:Nat->Nat->Int} (F:∀i,VR C w.heap (av i) (enc i)) (G:∀i j,kR ce g cT (av i) (av j)=some (s i j)) :
  CmpLays1 P g f.toArray enc s id off len w:=by
 intro m os n K x y;have h:=G x y;unfold kR at h;have o:iu ce g (av x::av y::cT)=some (.int (s x y)):=by
  split at h
  .rename_i c z; simp at h;subst h;exact z
  .simp at h
 have H:aq (av x::av y::cT)=true:=by
  unfold iu at o;split at o
  .assumption
  .simp at o
 have a:∀k,C.I k->(sortWorld enc w id off m n os).heap[k]? = w.heap[k]?:=λk d=>FY (E.I k d) λe=>r (e▸d);have A : Good (ad [] (λ_=>0) C.I) (sortWorld enc w id off m n os):=
  ⟨λk d=>by rw[FX];have:=E.I k d;omega,λb u B i h=>c7,λb u B i h=>c7,λb u B i L M N O h=>c7,λb u B i es h=>c7⟩
 have D:bm (ad [] (λ_=>0) C.I) (sortWorld enc w id off m n os).heap (av x::av y::cT) (enc x::enc y::f):=
  bm.free (show kJ C w.heap (ad [] (λ_=>0) C.I) (sortWorld enc w id off m n os).heap from⟨λ_ h=>h,a⟩) _ _ H ⟨_,_,rfl,F x,_,_,rfl,F y,q⟩
 have key:=wG p o A D;rw[show #[enc x,enc y]++f.toArray=(enc x::enc y::f).toArray by simp]
 refine key.mono ?_;rintro e Q ⟨v,rfl,R, S,l,J⟩;refine⟨by rw[J.bo],_,_,Uj l.size (λk d=>l.frame k d kb) l.os l.tape l.output⟩
def Ul{n:Nat}{d' : Array Nat}{c:Array Value}{el:TypeId}(d:w.heap[id]? = some (.cells c el (0,0))) (f:off+d'.size<=c.size) :
  (w.setRow id (c.toList.take off++d'.toList.map enc++c.toList.drop (off+(d'.toList.map enc).length)).toArray).heap.size<=(sortWorld enc w id off n d' os).heap.size/\
  ∀k,k<w.heap.size->(sortWorld enc w id off n d' os).heap[k]? = (w.setRow id (c.toList.take off++d'.toList.map enc++c.toList.drop (off+(d'.toList.map enc).length)).toArray).heap[k]?:=by
 refine⟨by rw[kK,FX];omega,λk g=>?_⟩
 by_cases e:k=id
 .subst e
  rw[setRow_heap w k c _ el (0,0) d];simp only[sortWorld,grow,putRow,mapBlock,«Sort».ahead];rw[kL eT,Array.getElem?_modify,ah rfl,d]
  simp only[Option.map_some,onCells,aS,jh,and_true];apply Array.ext_getElem?;intro i;have a:∀L:List Value,L.toArray[i]? = L[i]?:=λL=>ab
  rw[a (c.toList.take off++d'.toList.map enc++c.toList.drop (off+(d'.toList.map enc).length))];simp only[putCells,Array.getElem?_mapIdx,cP,mJ]
  by_cases h:i<off
  .rw[fO,dG ai,List.getElem?_take,ah h,gQ]
   cases j:c[i]? with
   |none=>rfl
   |some v=>simp;omega
  .by_cases l:i<off+d'.size
   .rw[dG ai,fk ai,eQ]
    have b:i<c.size:=aa
    rw[iv b];simp only[ji,mJ,Option.map_some];rw[ah aa,show min off c.size=off by omega,gQ,iv aa]
    simp[getElem!_def,iv (show i-off<d'.size by omega)]
   .rw[fk ai,jO,gQ]
    simp only[ez,ji,mJ,cP];rw[show off+d'.size+(i-(min off c.size+d'.size))=i by omega]
    cases j:c[i]? with
    |none=>rfl
    |some v=>simp;omega
 .rw[FY g e,gr w id _ e]
variable{K:List Int->List Int->Int}
def Um(a:my K) (wd:Nat->List Int):SWO (ltOf λi j=>K (wd i) (wd j)) where
 irrefl x:=by simp[ltOf,a.refl]
 trans x y z b f:=by
  simp only[ltOf,cO]at *;have d:=a.trans (wd x) (wd y) (wd z) aa aa
  rcases Int.lt_or_eq_of_le d with h|h
  .exact h
  .exfalso
   have e:=a.eq _ _ h;rw[e,a.iC]at b;omega
 ntrans x y z b f:=by
  simp only[ltOf,decide_eq_false_iff_not,Int.not_lt]at *;have d:=a.iC (wd x) (wd y);have g:=a.iC (wd y) (wd z);have l:=a.iC (wd x) (wd z);have:=a.trans (wd z) (wd y) (wd x) aa aa
  omega
variable{ρ:Ren}
def FZ(L:SlLaysF.n6 P ρ)(fG:bn P ce) (iD:bQ P ce)(hK:my K){b u:Nat}{σ:List aj}{B:aj}(hu:upto σ b u=some B) (jH:B.st = .live) (hk:B.k=none) (hlen:0<len) (tI:off+len<=B.cells.length) (iw:B.cells.length<=cE)
  (KY:agree ce g cT K ((B.cells.drop off).take len)=true) {ids:Nat->Nat} {I:Nat->Prop}  {vs:List Value} (hg:Good (ad σ ids I) w) (hv:bm (ad σ ids I) w.heap [.sl b u off len,.func g cT] vs) :
  Calls P (ρ.f 6) vs.toArray w λe w' =>∃v aV I', e = .returned v/\Good (ad (az σ b ⟨B.k,putAt B.cells off (cx K ((B.cells.drop off).take len)),B.st⟩) aV I') w' /\VR (ad (az σ b ⟨B.k,putAt B.cells off (cx K ((B.cells.drop off).take len)),B.st⟩) aV I') w'.heap (.bz []) v/\
   Step (ad σ ids I) w (ad (az σ b ⟨B.k,putAt B.cells off (cx K ((B.cells.drop off).take len)),B.st⟩) aV I') w' :=by
 obtain⟨hb,nU,pD⟩:=oe hu;have dU:=kc ids I hu;subst nU;obtain⟨v1,s1,rfl,tN,v2,s2,rfl,xx,rfl⟩:=hv;unfold VR at tN xx;have tN:=tN.2.2 B _ dU;rw[jH]at tN;obtain⟨c,el,o,cap,hH,e1,wY,hlc,oc⟩:=tN;rw[wY aa]at e1
 obtain⟨cb,e2,hcb⟩:=xx;obtain⟨Cl,c', wO, tG, hle,og⟩:=hg.live b _ B _ dU jH;rw[hH]at tG;simp only[aS,jh]at tG;obtain⟨rfl,rfl,_⟩:=tG;generalize hD:(B.cells.drop off).take len=D at KY ⊢;have Un:D.length=len:=by rw[<-hD];simp;omega
 have F0:∀i,i<len->D[i]? = B.cells[off+i]?:=λi hi=>by rw[<-hD,List.getElem?_take,ah hi,jO]
 let rZ:Nat->Nat:=λi=>min i (len-1)
 have KZ:∀i,rZ i<len:=λi=>by show min i (len-1)<len;omega
 have hex:∀i,∃x,D[rZ i]? = some x:=λi=>⟨_,cG (by rw[Un];exact KZ i)⟩
 let av:Nat->AV:=λi=>(D[rZ i]?).getD .au
 have Uo:∀i,D[rZ i]? = some (av i):=λi=>by obtain⟨x,hx⟩:=hex i;show _=some ((D[rZ i]?).getD .au);rw[hx];rfl
 have uq:∀i,av i∈D:=λi=>List.mem_iff_getElem?.2 ⟨_,Uo i⟩
 let enc:Nat->Value:=λi=>(c[off+rZ i]?).getD undef
 have r9:∀i,c[off+rZ i]? = some (enc i)/\VR (ad σ ids I) w.heap (av i) (enc i)/\(enc i).oneCell' = true:=λi=>by
  have h1:B.cells[off+rZ i]? = some (av i):=by rw[<-F0 _ (KZ i)];exact Uo i
  obtain⟨y,k1,k2,k3⟩:=og _ _ h1;have:enc i=y:=by show(c[off+rZ i]?).getD undef=y;rw[k1];rfl
  rw[this];exact⟨k1,k2,k3⟩
 let wd:Nat->List Int:=λi=>(bg (av i)).getD []
 have vX:∀i,bg (av i)=some (wd i):=λi=>by
  obtain⟨p,q,h1,_⟩:=l0 KY (uq i) (uq i);show bg (av i)=some ((bg (av i)).getD []);rw[h1];rfl
 have F1:∀i j,kR ce g cT (av i) (av j)=some (K (wd i) (wd j)):=λi j=>by
  obtain⟨p,q,h1,h2,h3⟩:=l0 KY (uq i) (uq j);rw[vX]at h1 h2;cases h1;cases h2
  exact h3
 have eg:∀args w,(callFunc g args).run P w = .ok (.enter g args) w:=by
  have h:=F1 0 0;unfold kR at h;have hp:∃x,iu ce g (av 0::av 0::cT)=some x:=by
   split at h
   .rename_i c qT; exact⟨_,qT⟩
   .simp at h
  obtain⟨x,hp⟩:=hp;unfold iu at hp;split at hp
  case isFalse=>simp at hp
  cases hc:ce g ((av 0::av 0::cT).map wk) []with
  |none=>rw[hc]at hp;simp at hp
  |some r=>exact tx (iD g _ _ r hc)
 have F2:=(eK.1 hH).1;have x4:Holds enc w (ids b) off (Array.range len):=λj hj=>by
  simp only[Array.size_range]at hj;have hj0:rZ j=j:=by show min j (len-1)=j;omega
  have h1:=(r9 j).1;rw[hj0]at h1;refine⟨?_,?_⟩
  .simp only[World.cell?,hH]
   rw[getElem!_def,Array.getElem?_range,ah hj];simpa using h1
  .simp[World.frozen?,hH]
 have key:=Any.slices_SortFunc L enc (λi=>(r9 i).2.2) (λi j=>K (wd i) (wd j)) (Um hK wd) g cb.toArray (ids b) off cap (Array.range len) w eg
  (Uk fG hg hcb Cl (λi=>(r9 i).2.1) F1) x4 F2 (by simp[cE]at iw ⊢;omega)
 simp only[Array.size_range]at key;rw[e1,e2];refine key.mono ?_;rintro e w' ⟨rfl,d', n,os,hp,hs,rfl⟩;obtain⟨p1,_,p3⟩:=hp;simp only[Array.size_range]at p1 p3;have F3:d'.toList.Perm (List.range len):=by
  have e3:(d'.extract 0 len).toList=d'.toList:=by rw[<-p1];simp
  have e4:((Array.range len).extract 0 len).toList=List.range len:=by
   have:(Array.range len).extract 0 len=Array.range len:=by
    have:=Array.extract_size (xs:=Array.range len)
    rwa [Array.size_range]at this
   rw[this];simp
  rw[e3,e4]at p3;exact p3
 have F4:(List.range len).map av=D:=by
  apply List.ext_getElem? λi=>?_;rw[eQ]
  by_cases hi:i<len
  .rw[List.getElem?_range hi]
   have:=Uo i;rw[show rZ i=i by show min i (len-1)=i;omega]at this
   rw[this];rfl
  .rw[lV ai,lV aa];rfl
 have pj:d'.toList.map av=cx K D:=by
  refine Di hK (λx hx=>?_) (by rw[<-F4];exact F3.map av) ?_
  .obtain⟨p,q,h1,_⟩:=l0 KY hx hx
   exact⟨p,h1⟩
  .rw[kV,pL]
   intro i j hi hj hij;simp only[mJ]at hi hj;have:=hs i j (Nat.zero_le _) hij aa
   rw[getElem!_pos d' j hj,getElem!_pos d' i hi]at this;simp only[ltOf,decide_eq_false_iff_not,Int.not_lt]at this;rw[lZ (vX _) (vX _),hK.iC];simp only[Array.getElem_toList];omega
 have F5:(cx K D).length=len:=by rw[<-pj];simp[p1]
 obtain⟨g1,g2⟩:=qY (vals:=d'.toList.map enc) (new:=cx K D) (off:=off) hg dU jH (lT (u:=0) hb) hH aa (by rw[F5];simp[p1]) (λi q hi=>by
  rw[<-pj,eQ]at hi;cases hd:d'.toList[i]? with
  |none=>rw[hd]at hi;simp at hi
  |some k=>
   rw[hd]at hi;simp at hi;subst hi;exact⟨enc k,by rw[eQ,hd];rfl,(r9 k).2.1,(r9 k).2.2⟩)
 obtain⟨pl,_⟩:=od B.cells (cx K D) off aa
 have fp:=mL (ids:=ids) (I:=I) (id' :=ids b) (B' :=⟨B.k,putAt B.cells off (cx K D),B.st⟩) hb pD;have lU:(λq=>if q=b then ids b else ids q)=ids:=jj
 rw[lU]at fp;obtain⟨f1,f2⟩:=Good.shrink (C2:=ad (az σ b ⟨B.k,putAt B.cells off (cx K D),B.st⟩) ids I) g1 rfl (λb1 u1 e1 h1=>by
  have:=fp b1 u1 e1 h1;simp only[pl]at this;exact this) (λb1 u1 h1=>mM (ids:=ids) (I:=I) hb (by show B.cells.length<=(putAt B.cells off (cx K D)).length;rw[pl];exact aY _) b1 u1 h1)
 obtain⟨r1,r2⟩:=Ul (enc:=enc) (off:=off) (n:=n) (os:=os) (d' :=d') hH (by rw[p1];omega)
 have kk:∀k,k<(w.setRow (ids b) (c.toList.take off++d'.toList.map enc++c.toList.drop (off+(d'.toList.map enc).length)).toArray).heap.size->(sortWorld enc w (ids b) off n d' os).heap[k]? = (w.setRow (ids b) (c.toList.take off++d'.toList.map enc++c.toList.drop (off+(d'.toList.map enc).length)).toArray).heap[k]?:=λk hk=>r2 k (by rwa [kK]at hk)
 obtain⟨q1,q2⟩:=f1.lD r1 kk I (λ_ h=>h) (λk hk=>Nat.lt_of_lt_of_le (f1.I k hk) r1) (λk hk=>.inl hk) rfl ⟨rfl,by show w.drawn<=w.drawn+n;omega⟩ rfl
 exact⟨_,ids,I,rfl,q1,l4,(g2.trans f2).trans q2⟩
def Up(L:SlLaysF.n6 P ρ){f:Nat}(M:ρ.f 6=f) (N:bU P f=true):dc P f iB:=by
 subst M;refine⟨N,λce o q args s r O h ids I w U z x=>?_⟩;have d:∀(m:Value) (p:Option Addr) (cap:Nat),Calls P (ρ.f 6) #[.slice p 0 cap,m] w λe y =>∃v j A, e = .returned v/\Good (ad s j A) y /\VR (ad s j A) y.heap (.bz []) v/\Step (ad s ids I) w (ad s j A) y :=λm p cap=>by
  refine(AnyF.slices_SortFunc_none (P:=P) (ρ:=ρ) {L with} p cap m w).mono ?_
  rintro e y ⟨rfl,rfl⟩;exact⟨_,ids,I,rfl,z,l4,Step.refl _ _⟩
 unfold iB at h;split at h
 .simp only[aS,Prod.mk.injEq]at h
  obtain⟨rfl,rfl⟩:=h;obtain⟨D,Q,rfl,i,m,R,rfl,C,rfl⟩:=x;have i:D = .slice none 0 0:=i;subst i;exact d m none 0
 .simp only[aS,Prod.mk.injEq]at h
  obtain⟨rfl,rfl⟩:=h;obtain⟨D,Q,rfl,i,m,R,rfl,C,rfl⟩:=x;unfold VR at i;rcases i.2 with⟨_,a,rfl,_⟩|⟨ay,off,cap,st,c,el,V,rfl,_⟩
  .exact d m a 0
  .exact d m _ cap
 .rename_i b u off len g cT
  split at h
  .rename_i B E
   split at h
   .rename_i F
    simp only[aD,cO]at F;obtain⟨⟨⟨⟨S,T⟩,G⟩,H⟩,J⟩:=F;have l:B.st = .live:=by revert S;cases B.st<;>simp[c6.isLive]
    have K:B.k=none:=by revert T;cases B.k<;>simp[dV]
    split at h
    .rename_i n
     simp only[aS,Prod.mk.injEq]at h;obtain⟨rfl,rfl⟩:=h;exact FZ L o q fe E l K G H J n z x
    .split at h
     .rename_i n
      simp only[aS,Prod.mk.injEq]at h;obtain⟨rfl,rfl⟩:=h;exact FZ L o q pJ E l K G H J n z x
     .simp at h
   .simp at h
  .simp at h
 .simp at h
end Ab
