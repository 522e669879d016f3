/- slices.SortFunc, at words under an order of words, does what the small language says. Condition: the library's own text, as the kit's contract has walked it. -/
import Derived.Test.YtdenhmniigikcaaGreatAbC
import Derived.Test.YtdenhmniigikcaaGreatAbSortM
import Derived.Shelf.SlSortCmp.NoneTotal
set_option linter.all false
namespace Ab
open Go Go.Proofs Go.Shelf Go.Sort
variable{P:Program}
theorem agw{W w' : World}(h1:W.heap.size<=w'.heap.size) (h2:∀k,k<W.heap.size->w'.heap[k]? = W.heap[k]?) (h3:w'.os=W.os) (h4:w'.tape=W.tape/\W.drawn<=w'.drawn) (h5:w'.output=W.output) :
  w' = grow (W.drewN (w'.drawn-W.drawn)) (w'.heap.extract W.heap.size w'.heap.size):=by
 obtain⟨H,t,d,o,u⟩:=W;obtain⟨H', t', d', o', u'⟩:=w';simp only at h1 h2 h3 h4 h5;obtain⟨rfl,h4⟩:=h4;subst h3;subst h5;simp only[grow,World.drewN,World.mk.injEq,true_and,and_true];refine⟨?_,by omega⟩
 apply Array.ext_getElem?;intro i
 by_cases hi:i<H.size
 ·rw[kS hi,h2 i hi]
 ·rw[ud (by omega),Array.getElem?_extract]
  by_cases dw : i<H'.size
  ·rw[ab (by omega),show H.size+(i-H.size)=i by omega]
  ·rw[aa (by omega),Array.getElem?_eq_none (by omega)]
theorem PS{α:Type} [Inhabited α]{enc:α->Value}{w:World}{id off m:Nat}{dk:Array α}{os:Array Obj}:(sortWorld enc w id off m dk os).heap.size=w.heap.size+os.size:=by
 simp[sortWorld,grow,putRow,mapBlock,«Sort».ahead]
theorem PT{α:Type} [Inhabited α]{enc:α->Value}{w:World}{id off m:Nat}{dk:Array α}{os:Array Obj}{k:Nat}(h:k<w.heap.size) (bY:k ≠ id):(sortWorld enc w id off m dk os).heap[k]? = w.heap[k]?:=by
 simp only[sortWorld,grow,putRow,mapBlock,«Sort».ahead];rw[kS (by simpa using h),su,aa (by omega)]
theorem agx{ce:CE}(dM:cx P ce){g:Nat}{aI:List AV}{C:Ctx}{w:World}{cb:List Value}(hg:Good C w) (oh:cd C w.heap aI cb){id off len:Nat}(Bt:¬C.I id)
  {av:Nat->AV} {enc:Nat->Value} {cf:Nat->Nat->Int} (hv:∀i,VR C w.heap (av i) (enc i)) (hc:∀i j,iF ce g aI (av i) (av j)=some (cf i j)) :
  CmpLays1 P g cb.toArray enc cf id off len w:=by
 intro m os dk hs x y;have h:=hc x y;unfold iF at h;have hp:iZ ce g (av x::av y::aI)=some (.int (cf x y)):=by
  split at h
  ·rename_i c fW; simp at h;subst h;exact fW
  ·simp at h
 have hn:ax (av x::av y::aI)=true:=by
  unfold iZ at hp;split at hp
  ·assumption
  ·simp at hp
 have dt:∀k,C.I k->(sortWorld enc w id off m dk os).heap[k]? = w.heap[k]?:=λk hk=>PT (hg.I k hk) λe=>Bt (e▸hk);have xy : Good (af [] (λ_=>0) C.I) (sortWorld enc w id off m dk os):=
  ⟨λk hk=>by rw[PS];have:=hg.I k hk;omega,λb u B i h=>by simp[af,ak]at h,λb u B i h=>by simp[af,ak]at h,λb u B i b' u' B' i' h=>by simp[af,ak]at h,λb u B i es h=>by simp[af,ak]at h⟩
 have tV:cd (af [] (λ_=>0) C.I) (sortWorld enc w id off m dk os).heap (av x::av y::aI) (enc x::enc y::cb):=
  cd.free (show ow C w.heap (af [] (λ_=>0) C.I) (sortWorld enc w id off m dk os).heap from⟨λ_ h=>h,dt⟩) _ _ hn ⟨_,_,rfl,hv x,_,_,rfl,hv y,oh⟩
 have key:=xW dM hp xy tV;rw[show #[enc x,enc y]++cb.toArray=(enc x::enc y::cb).toArray by simp]
 refine key.mono ?_;rintro e w' ⟨v,rfl,I', k1,k2,k3⟩;refine⟨by rw[k3.aY],_,_,agw k2.size (λk hk=>k2.frame k hk nm) k2.os k2.tape k2.output⟩
theorem agy{enc:Nat->Value}{w:World}{id off n:Nat}{d' : Array Nat}{os:Array Obj}{c:Array Value}{el:TypeId}(hH:w.heap[id]? = some (.cells c el (0,0))) (fA:off+d'.size<=c.size) :
  (w.setRow id (c.toList.take off++d'.toList.map enc++c.toList.drop (off+(d'.toList.map enc).length)).toArray).heap.size<=(sortWorld enc w id off n d' os).heap.size/\
  ∀k,k<w.heap.size->(sortWorld enc w id off n d' os).heap[k]? = (w.setRow id (c.toList.take off++d'.toList.map enc++c.toList.drop (off+(d'.toList.map enc).length)).toArray).heap[k]?:=by
 refine⟨by rw[nw,PS];omega,λk hk=>?_⟩
 by_cases e:k=id
 ·subst e
  rw[setRow_heap w k c _ el (0,0) hH];simp only[sortWorld,grow,putRow,mapBlock,«Sort».ahead];rw[kS (by simpa using hk),su,ab rfl,hH]
  simp only[lH,onCells,bF,kF,and_true];apply Array.ext_getElem?;intro i;have Nt:∀L:List Value,L.toArray[i]? = L[i]?:=λL=>by simp
  rw[Nt (c.toList.take off++d'.toList.map enc++c.toList.drop (off+(d'.toList.map enc).length))];simp only[putCells,Array.getElem?_mapIdx,dR,nD]
  by_cases h1:i<off
  ·rw[iS,ft (by simp;omega),uo,ab h1,iR]
   cases hc:c[i]? with
   |none=>rfl
   |some v=>simp;omega
  ·by_cases h2:i<off+d'.size
   ·rw[ft (by simp;omega),gm (by simp;omega),ie]
    have aK:i<c.size:=by omega
    rw[jg aK];simp only[my,nD,lH];rw[ab (by omega),show min off c.size=off by omega,iR,jg (by omega)]
    simp[getElem!_def,jg (show i-off<d'.size by omega)]
   ·rw[gm (by simp;omega),lE,iR]
    simp only[bu,my,nD,dR];rw[show off+d'.size+(i-(min off c.size+d'.size))=i by omega]
    cases hc:c[i]? with
    |none=>rfl
    |some v=>simp;omega
 ·rw[PT hk e,jW w id _ e]
theorem agz{K:List Int->List Int->Int}(hK:BE K) (wd:Nat->List Int):SWO (ltOf λi j=>K (wd i) (wd j)) where
 irrefl x:=by simp[ltOf,hK.refl]
 trans x y z h1 h2:=by
  simp only[ltOf,eP]at *;have a1:=hK.trans (wd x) (wd y) (wd z) (by omega) (by omega)
  rcases Int.lt_or_eq_of_le a1 with h|h
  ·exact h
  ·exfalso
   have e:=hK.eq _ _ h;rw[e,hK.gF]at h1;omega
 ntrans x y z h1 h2:=by
  simp only[ltOf,wg,Int.not_lt]at *;have a1:=hK.gF (wd x) (wd y);have a2:=hK.gF (wd y) (wd z);have a3:=hK.gF (wd x) (wd z);have:=hK.trans (wd z) (wd y) (wd x) (by omega) (by omega)
  omega
theorem PU{ρ:Ren}(L:SlLaysF.n6 P ρ){ce:CE}(dM:cx P ce) (jw:dY P ce){K:List Int->List Int->Int}(hK:BE K){b u off len g:Nat}{aI:List AV}{σ:List ag}{B:ag}(hu:upto σ b u=some B) (dP:B.st = .live) (hk:B.k=none) (hlen:0<len) (fA:off+len<=B.cells.length) (fP:B.cells.length<=dE)
  (pL:agree ce g aI K ((B.cells.drop off).take len)=true) {ids:Nat->Nat} {I:Nat->Prop} {w:World} {vs:List Value} (hg:Good (af σ ids I) w) (hv:cd (af σ ids I) w.heap [.sl b u off len,.func g aI] vs) :
  Calls P (ρ.f 6) vs.toArray w λe w' =>∃v aJ I', e = .returned v/\Good (af (ay σ b ⟨B.k,putAt B.cells off (dZ K ((B.cells.drop off).take len)),B.st⟩) aJ I') w' /\VR (af (ay σ b ⟨B.k,putAt B.cells off (dZ K ((B.cells.drop off).take len)),B.st⟩) aJ I') w'.heap (.bQ []) v/\
   Step (af σ ids I) w (af (ay σ b ⟨B.k,putAt B.cells off (dZ K ((B.cells.drop off).take len)),B.st⟩) aJ I') w' :=by
 obtain⟨hb,oE,jh⟩:=q9 hu;have bH:=lC ids I hu;subst oE;obtain⟨v1,s1,rfl,dQ,v2,s2,rfl,nG,rfl⟩:=hv;unfold VR at dQ nG;have dQ:=dQ.2.2 B _ bH;rw[dP]at dQ;obtain⟨c,el,o,cap,hH,e1,mB,Mb,jM⟩:=dQ;rw[mB (by omega)]at e1
 obtain⟨cb,e2,oh⟩:=nG;obtain⟨Wf,c', mg, rZ, hle,j6⟩:=hg.live b _ B _ bH dP;rw[hH]at rZ;simp only[bF,kF]at rZ;obtain⟨rfl,rfl,_⟩:=rZ;generalize hD:(B.cells.drop off).take len=D at pL ⊢;have hDl:D.length=len:=by rw[<-hD];simp;omega
 have sS:∀i,i<len->D[i]? = B.cells[off+i]?:=λi hi=>by rw[<-hD,uo,ab hi,lE]
 let lf:Nat->Nat:=λi=>min i (len-1)
 have qj:∀i,lf i<len:=λi=>by show min i (len-1)<len;omega
 have hex:∀i,∃x,D[lf i]? = some x:=λi=>⟨_,dc (by rw[hDl];exact qj i)⟩
 let av:Nat->AV:=λi=>(D[lf i]?).getD .aM
 have hav:∀i,D[lf i]? = some (av i):=λi=>by obtain⟨x,hx⟩:=hex i;show _=some ((D[lf i]?).getD .aM);rw[hx];rfl
 have il:∀i,av i∈D:=λi=>sD.2 ⟨_,hav i⟩
 let enc:Nat->Value:=λi=>(c[off+lf i]?).getD undef
 have y9:∀i,c[off+lf i]? = some (enc i)/\VR (af σ ids I) w.heap (av i) (enc i)/\(enc i).oneCell' = true:=λi=>by
  have h1:B.cells[off+lf i]? = some (av i):=by rw[<-sS _ (qj i)];exact hav i
  obtain⟨y,k1,k2,k3⟩:=j6 _ _ h1;have:enc i=y:=by show(c[off+lf i]?).getD undef=y;rw[k1];rfl
  rw[this];exact⟨k1,k2,k3⟩
 let wd:Nat->List Int:=λi=>(cj (av i)).getD []
 have F9:∀i,cj (av i)=some (wd i):=λi=>by
  obtain⟨p,q,h1,_⟩:=rn pL (il i) (il i);show cj (av i)=some ((cj (av i)).getD []);rw[h1];rfl
 have za:∀i j,iF ce g aI (av i) (av j)=some (K (wd i) (wd j)):=λi j=>by
  obtain⟨p,q,h1,h2,h3⟩:=rn pL (il i) (il j);rw[F9]at h1 h2;cases h1;cases h2
  exact h3
 have eg:∀args w,(callFunc g args).run P w = .ok (.enter g args) w:=by
  have h:=za 0 0;unfold iF at h;have hp:∃x,iZ ce g (av 0::av 0::aI)=some x:=by
   split at h
   ·rename_i c fW; exact⟨_,fW⟩
   ·simp at h
  obtain⟨x,hp⟩:=hp;unfold iZ at hp;split at hp
  case isFalse=>simp at hp
  cases hc:ce g ((av 0::av 0::aI).map wk) []with
  |none=>rw[hc]at hp;simp at hp
  |some r=>exact xY (jw g _ _ r hc)
 have sT:=(jd.1 hH).1;have oY:Holds enc w (ids b) off (Array.range len):=λj hj=>by
  simp only[sJ]at hj;have Wr:lf j=j:=by show min j (len-1)=j;omega
  have h1:=(y9 j).1;rw[Wr]at h1;refine⟨?_,?_⟩
  ·simp only[World.cell?,hH]
   rw[getElem!_def,Array.getElem?_range,ab hj];simpa using h1
  ·simp[World.frozen?,hH]
 have key:=Any.slices_SortFunc L enc (λi=>(y9 i).2.2) (λi j=>K (wd i) (wd j)) (agz hK wd) g cb.toArray (ids b) off cap (Array.range len) w eg
  (agx dM hg oh Wf (λi=>(y9 i).2.1) za) oY sT (by simp[dE]at fP ⊢;omega)
 simp only[sJ]at key;rw[e1,e2];refine key.mono ?_;rintro e w' ⟨rfl,d', n,os,hp,hs,rfl⟩;obtain⟨p1,_,p3⟩:=hp;simp only[sJ]at p1 p3;have zb:d'.toList.Perm (List.range len):=by
  have e3:(d'.extract 0 len).toList=d'.toList:=by rw[<-p1];simp
  have e4:((Array.range len).extract 0 len).toList=List.range len:=by
   have:(Array.range len).extract 0 len=Array.range len:=by
    have:=Array.extract_size (xs:=Array.range len)
    rwa [sJ]at this
   rw[this];simp
  rw[e3,e4]at p3;exact p3
 have zd:(List.range len).map av=D:=by
  apply List.ext_getElem? λi=>?_;rw[ie]
  by_cases hi:i<len
  ·rw[List.getElem?_range hi]
   have:=hav i;rw[show lf i=i by show min i (len-1)=i;omega]at this
   rw[this];rfl
  ·rw[jF (by simp;omega),jF (by omega)];rfl
 have vF:d'.toList.map av=dZ K D:=by
  refine MH hK (λx hx=>?_) (by rw[<-zd];exact zb.map av) ?_
  ·obtain⟨p,q,h1,_⟩:=rn pL hx hx
   exact⟨p,h1⟩
  ·rw[List.pairwise_map,rr]
   intro i j hi hj qk;simp only[nD]at hi hj;have:=hs i j (Nat.zero_le _) qk (by omega)
   rw[getElem!_pos d' j hj,getElem!_pos d' i hi]at this;simp only[ltOf,wg,Int.not_lt]at this;rw[rm (F9 _) (F9 _),hK.gF];simp only[Array.getElem_toList];omega
 have PV:(dZ K D).length=len:=by rw[<-vF];simp[p1]
 obtain⟨g1,g2⟩:=ue (vals:=d'.toList.map enc) (new:=dZ K D) (off:=off) hg bH dP (mA (u:=0) hb) hH (by omega) (by rw[PV];simp[p1]) (λi q hi=>by
  rw[<-vF,ie]at hi;cases hd:d'.toList[i]? with
  |none=>rw[hd]at hi;simp at hi
  |some k=>
   rw[hd]at hi;simp at hi;subst hi;exact⟨enc k,by rw[ie,hd];rfl,(y9 k).2.1,(y9 k).2.2⟩)
 obtain⟨pl,_⟩:=q8 B.cells (dZ K D) off (by omega)
 have eQ:=oG (ids:=ids) (I:=I) (id' :=ids b) (B' :=⟨B.k,putAt B.cells off (dZ K D),B.st⟩) hb jh;have j7:(λq=>if q=b then ids b else ids q)=ids:=by funext q;split<;>simp_all
 rw[j7]at eQ;obtain⟨f1,f2⟩:=Good.shrink (C2:=af (ay σ b ⟨B.k,putAt B.cells off (dZ K D),B.st⟩) ids I) g1 rfl (λb1 u1 e1 h1=>by
  have:=eQ b1 u1 e1 h1;simp only[pl]at this;exact this) (λb1 u1 h1=>oH (ids:=ids) (I:=I) hb (by show B.cells.length<=(putAt B.cells off (dZ K D)).length;rw[pl];exact bw _) b1 u1 h1)
 obtain⟨r1,r2⟩:=agy (enc:=enc) (off:=off) (n:=n) (os:=os) (d' :=d') hH (by rw[p1];omega)
 have dt:∀k,k<(w.setRow (ids b) (c.toList.take off++d'.toList.map enc++c.toList.drop (off+(d'.toList.map enc).length)).toArray).heap.size->(sortWorld enc w (ids b) off n d' os).heap[k]? = (w.setRow (ids b) (c.toList.take off++d'.toList.map enc++c.toList.drop (off+(d'.toList.map enc).length)).toArray).heap[k]?:=λk hk=>r2 k (by rwa [nw]at hk)
 obtain⟨q1,q2⟩:=f1.ou r1 dt I (λ_ h=>h) (λk hk=>Nat.lt_of_lt_of_le (f1.I k hk) r1) (λk hk=>.inl hk) rfl ⟨rfl,by show w.drawn<=w.drawn+n;omega⟩ rfl
 exact⟨_,ids,I,rfl,q1,by unfold VR;exact⟨[],rfl,rfl⟩,(g2.trans f2).trans q2⟩
theorem agA{ρ:Ren}(L:SlLaysF.n6 P ρ){f:Nat}(hf:ρ.f 6=f) (hb:cJ P f=true):eR P f lL:=by
 subst hf;refine⟨hb,λce dM jw args σ r bp hp ids I w vs hg hv=>?_⟩;have fo:∀(v2:Value) (p:Option Addr) (cap:Nat),Calls P (ρ.f 6) #[.slice p 0 cap,v2] w λe w' =>∃v aJ I', e = .returned v/\Good (af σ aJ I') w' /\VR (af σ aJ I') w'.heap (.bQ []) v/\Step (af σ ids I) w (af σ aJ I') w' :=λv2 p cap=>by
  refine(AnyF.slices_SortFunc_none (P:=P) (ρ:=ρ) {L with} p cap v2 w).mono ?_
  rintro e w' ⟨rfl,rfl⟩;exact⟨_,ids,I,rfl,hg,by unfold VR;exact⟨[],rfl,rfl⟩,Step.refl _ _⟩
 unfold lL at hp;split at hp
 ·simp only[bF,Prod.mk.injEq]at hp
  obtain⟨rfl,rfl⟩:=hp;obtain⟨v1,s1,rfl,dQ,v2,s2,rfl,nG,rfl⟩:=hv;have dQ:v1 = .slice none 0 0:=dQ;subst dQ;exact fo v2 none 0
 ·simp only[bF,Prod.mk.injEq]at hp
  obtain⟨rfl,rfl⟩:=hp;obtain⟨v1,s1,rfl,dQ,v2,s2,rfl,nG,rfl⟩:=hv;unfold VR at dQ;rcases dQ.2 with⟨_,a,rfl,_⟩|⟨ak,off,cap,st,c,el,fz,rfl,_⟩
  ·exact fo v2 a 0
  ·exact fo v2 _ cap
 ·rename_i b u off len g aI
  split at hp
  ·rename_i B hu
   split at hp
   ·rename_i hc
    simp only[aD,eP]at hc;obtain⟨⟨⟨⟨c1,c2⟩,c3⟩,c4⟩,c5⟩:=hc;have dP:B.st = .live:=by revert c1;cases B.st<;>simp[eo.isLive]
    have hk:B.k=none:=by revert c2;cases B.k<;>simp[gR]
    split at hp
    ·rename_i pL
     simp only[bF,Prod.mk.injEq]at hp;obtain⟨rfl,rfl⟩:=hp;exact PU L dM jw dJ hu dP hk c3 c4 c5 pL hg hv
    ·split at hp
     ·rename_i pL
      simp only[bF,Prod.mk.injEq]at hp;obtain⟨rfl,rfl⟩:=hp;exact PU L dM jw ME hu dP hk c3 c4 c5 pL hg hv
     ·simp at hp
   ·simp at hp
  ·simp at hp
 ·simp at hp
end Ab
