/- slices.SortFunc, at words under an order of words, does what the small language says. Condition: the library's own text, as the kit's contract has walked it. -/
import Derived.Test.YtdenhmniigikcaaGreatAbC
import Derived.Test.YtdenhmniigikcaaGreatAbSortM
import Derived.Shelf.SlSortCmp.NoneTotal
set_option linter.all false
namespace Ab
open Go Go.Proofs Go.Shelf Go.Sort
variable{P:Program}
theorem ag4{W w' : World}(h1:W.heap.size<=w'.heap.size) (h2:∀k,k<W.heap.size->w'.heap[k]? = W.heap[k]?) (h3:w'.os=W.os) (h4:w'.tape=W.tape/\W.drawn<=w'.drawn) (h5:w'.output=W.output) :
  w' = grow (W.drewN (w'.drawn-W.drawn)) (w'.heap.extract W.heap.size w'.heap.size):=by
 obtain⟨H,t,d,o,u⟩:=W;obtain⟨H', t', d', o', u'⟩:=w';simp only at h1 h2 h3 h4 h5;obtain⟨rfl,h4⟩:=h4;subst h3;subst h5;simp only[grow,World.drewN,World.mk.injEq,true_and,and_true];refine⟨?_,by omega⟩
 apply Array.ext_getElem?;intro i
 by_cases hi:i<H.size
 ·rw[kV hi,h2 i hi]
 ·rw[uh (by omega),Array.getElem?_extract]
  by_cases dx : i<H'.size
  ·rw[ae (by omega),show H.size+(i-H.size)=i by omega]
  ·rw[ab (by omega),Array.getElem?_eq_none (by omega)]
theorem Qv{α:Type} [Inhabited α]{enc:α->Value}{w:World}{id off m:Nat}{dk:Array α}{os:Array Obj}:(sortWorld enc w id off m dk os).heap.size=w.heap.size+os.size:=by
 simp[sortWorld,grow,putRow,mapBlock,«Sort».ahead]
theorem Qw{α:Type} [Inhabited α]{enc:α->Value}{w:World}{id off m:Nat}{dk:Array α}{os:Array Obj}{k:Nat}(h:k<w.heap.size) (b8:k ≠ id):(sortWorld enc w id off m dk os).heap[k]? = w.heap[k]?:=by
 simp only[sortWorld,grow,putRow,mapBlock,«Sort».ahead];rw[kV (by simpa using h),sx,ab (by omega)]
theorem ag5{ce:CE}(dM:cz P ce){g:Nat}{aI:List AV}{C:Ctx}{w:World}{cb:List Value}(hg:Good C w) (ox:cm C w.heap aI cb){id off len:Nat}(BD:¬C.I id)
  {av:Nat->AV} {enc:Nat->Value} {cf:Nat->Nat->Int} (hv:∀i,VR C w.heap (av i) (enc i)) (hc:∀i j,iK ce g aI (av i) (av j)=some (cf i j)) :
  CmpLays1 P g cb.toArray enc cf id off len w:=by
 intro m os dk hs x y;have h:=hc x y;unfold iK at h;have hp:je ce g (av x::av y::aI)=some (.int (cf x y)):=by
  split at h
  ·rename_i c ga; simp at h;subst h;exact ga
  ·simp at h
 have hn:ay (av x::av y::aI)=true:=by
  unfold je at hp;split at hp
  ·assumption
  ·simp at hp
 have du:∀k,C.I k->(sortWorld enc w id off m dk os).heap[k]? = w.heap[k]?:=λk hk=>Qw (hg.I k hk) λe=>BD (e▸hk);have xH : Good (af [] (λ_=>0) C.I) (sortWorld enc w id off m dk os):=
  ⟨λk hk=>by rw[Qv];have:=hg.I k hk;omega,λb u B i h=>by simp[af,al]at h,λb u B i h=>by simp[af,al]at h,λb u B i b' u' B' i' h=>by simp[af,al]at h,λb u B i es h=>by simp[af,al]at h⟩
 have tZ:cm (af [] (λ_=>0) C.I) (sortWorld enc w id off m dk os).heap (av x::av y::aI) (enc x::enc y::cb):=
  cm.free (show oC C w.heap (af [] (λ_=>0) C.I) (sortWorld enc w id off m dk os).heap from⟨λ_ h=>h,du⟩) _ _ hn ⟨_,_,rfl,hv x,_,_,rfl,hv y,ox⟩
 have key:=yg dM hp xH tZ;rw[show #[enc x,enc y]++cb.toArray=(enc x::enc y::cb).toArray by simp]
 refine key.mono ?_;rintro e w' ⟨v,rfl,I', k1,k2,k3⟩;refine⟨by rw[k3.ba],_,_,ag4 k2.size (λk hk=>k2.frame k hk nD) k2.os k2.tape k2.output⟩
theorem ag6{enc:Nat->Value}{w:World}{id off n:Nat}{d' : Array Nat}{os:Array Obj}{c:Array Value}{el:TypeId}(hH:w.heap[id]? = some (.cells c el (0,0))) (fE:off+d'.size<=c.size) :
  (w.setRow id (c.toList.take off++d'.toList.map enc++c.toList.drop (off+(d'.toList.map enc).length)).toArray).heap.size<=(sortWorld enc w id off n d' os).heap.size/\
  ∀k,k<w.heap.size->(sortWorld enc w id off n d' os).heap[k]? = (w.setRow id (c.toList.take off++d'.toList.map enc++c.toList.drop (off+(d'.toList.map enc).length)).toArray).heap[k]?:=by
 refine⟨by rw[nH,Qv];omega,λk hk=>?_⟩
 by_cases e:k=id
 ·subst e
  rw[setRow_heap w k c _ el (0,0) hH];simp only[sortWorld,grow,putRow,mapBlock,«Sort».ahead];rw[kV (by simpa using hk),sx,ae rfl,hH]
  simp only[lK,onCells,bJ,kH,and_true];apply Array.ext_getElem?;intro i;have N7:∀L:List Value,L.toArray[i]? = L[i]?:=λL=>by simp
  rw[N7 (c.toList.take off++d'.toList.map enc++c.toList.drop (off+(d'.toList.map enc).length))];simp only[putCells,Array.getElem?_mapIdx,dR,nK]
  by_cases h1:i<off
  ·rw[iW,fw (by simp;omega),uv,ae h1,iV]
   cases hc:c[i]? with
   |none=>rfl
   |some v=>simp;omega
  ·by_cases h2:i<off+d'.size
   ·rw[fw (by simp;omega),gv (by simp;omega),iv]
    have aK:i<c.size:=by omega
    rw[jl aK];simp only[mB,nK,lK];rw[ae (by omega),show min off c.size=off by omega,iV,jl (by omega)]
    simp[getElem!_def,jl (show i-off<d'.size by omega)]
   ·rw[gv (by simp;omega),lH,iV]
    simp only[bz,mB,nK,dR];rw[show off+d'.size+(i-(min off c.size+d'.size))=i by omega]
    cases hc:c[i]? with
    |none=>rfl
    |some v=>simp;omega
 ·rw[Qw hk e,jY w id _ e]
theorem ag7{K:List Int->List Int->Int}(hK:BP K) (wd:Nat->List Int):SWO (ltOf λi j=>K (wd i) (wd j)) where
 irrefl x:=by simp[ltOf,hK.refl]
 trans x y z h1 h2:=by
  simp only[ltOf,eR]at *;have a1:=hK.trans (wd x) (wd y) (wd z) (by omega) (by omega)
  rcases Int.lt_or_eq_of_le a1 with h|h
  ·exact h
  ·exfalso
   have e:=hK.eq _ _ h;rw[e,hK.gJ]at h1;omega
 ntrans x y z h1 h2:=by
  simp only[ltOf,wm,Int.not_lt]at *;have a1:=hK.gJ (wd x) (wd y);have a2:=hK.gJ (wd y) (wd z);have a3:=hK.gJ (wd x) (wd z);have:=hK.trans (wd z) (wd y) (wd x) (by omega) (by omega)
  omega
theorem Qx{ρ:Ren}(L:SlLaysF.n6 P ρ){ce:CE}(dM:cz P ce) (jz:dZ P ce){K:List Int->List Int->Int}(hK:BP K){b u off len g:Nat}{aI:List AV}{σ:List ag}{B:ag}(hu:upto σ b u=some B) (dP:B.st = .live) (hk:B.k=none) (hlen:0<len) (fE:off+len<=B.cells.length) (fS:B.cells.length<=dG)
  (pO:agree ce g aI K ((B.cells.drop off).take len)=true) {ids:Nat->Nat} {I:Nat->Prop} {w:World} {vs:List Value} (hg:Good (af σ ids I) w) (hv:cm (af σ ids I) w.heap [.sl b u off len,.func g aI] vs) :
  Calls P (ρ.f 6) vs.toArray w λe w' =>∃v aJ I', e = .returned v/\Good (af (az σ b ⟨B.k,putAt B.cells off (ef K ((B.cells.drop off).take len)),B.st⟩) aJ I') w' /\VR (af (az σ b ⟨B.k,putAt B.cells off (ef K ((B.cells.drop off).take len)),B.st⟩) aJ I') w'.heap (.bS []) v/\
   Step (af σ ids I) w (af (az σ b ⟨B.k,putAt B.cells off (ef K ((B.cells.drop off).take len)),B.st⟩) aJ I') w' :=by
 obtain⟨hb,oJ,jm⟩:=rj hu;have bO:=lF ids I hu;subst oJ;obtain⟨v1,s1,rfl,dQ,v2,s2,rfl,nN,rfl⟩:=hv;unfold VR at dQ nN;have dQ:=dQ.2.2 B _ bO;rw[dP]at dQ;obtain⟨c,el,o,cap,hH,e1,mE,MP,jO⟩:=dQ;rw[mE (by omega)]at e1
 obtain⟨cb,e2,ox⟩:=nN;obtain⟨WV,c', mi, r7, hle,j8⟩:=hg.live b _ B _ bO dP;rw[hH]at r7;simp only[bJ,kH]at r7;obtain⟨rfl,rfl,_⟩:=r7;generalize hD:(B.cells.drop off).take len=D at pO ⊢;have hDl:D.length=len:=by rw[<-hD];simp;omega
 have sV:∀i,i<len->D[i]? = B.cells[off+i]?:=λi hi=>by rw[<-hD,uv,ae hi,lH]
 let lh:Nat->Nat:=λi=>min i (len-1)
 have ql:∀i,lh i<len:=λi=>by show min i (len-1)<len;omega
 have hex:∀i,∃x,D[lh i]? = some x:=λi=>⟨_,de (by rw[hDl];exact ql i)⟩
 let av:Nat->AV:=λi=>(D[lh i]?).getD .aM
 have hav:∀i,D[lh i]? = some (av i):=λi=>by obtain⟨x,hx⟩:=hex i;show _=some ((D[lh i]?).getD .aM);rw[hx];rfl
 have iz:∀i,av i∈D:=λi=>sH.2 ⟨_,hav i⟩
 let enc:Nat->Value:=λi=>(c[off+lh i]?).getD undef
 have zk:∀i,c[off+lh i]? = some (enc i)/\VR (af σ ids I) w.heap (av i) (enc i)/\(enc i).oneCell' = true:=λi=>by
  have h1:B.cells[off+lh i]? = some (av i):=by rw[<-sV _ (ql i)];exact hav i
  obtain⟨y,k1,k2,k3⟩:=j8 _ _ h1;have:enc i=y:=by show(c[off+lh i]?).getD undef=y;rw[k1];rfl
  rw[this];exact⟨k1,k2,k3⟩
 let wd:Nat->List Int:=λi=>(cp (av i)).getD []
 have GG:∀i,cp (av i)=some (wd i):=λi=>by
  obtain⟨p,q,h1,_⟩:=ru pO (iz i) (iz i);show cp (av i)=some ((cp (av i)).getD []);rw[h1];rfl
 have zl:∀i j,iK ce g aI (av i) (av j)=some (K (wd i) (wd j)):=λi j=>by
  obtain⟨p,q,h1,h2,h3⟩:=ru pO (iz i) (iz j);rw[GG]at h1 h2;cases h1;cases h2
  exact h3
 have eg:∀args w,(callFunc g args).run P w = .ok (.enter g args) w:=by
  have h:=zl 0 0;unfold iK at h;have hp:∃x,je ce g (av 0::av 0::aI)=some x:=by
   split at h
   ·rename_i c ga; exact⟨_,ga⟩
   ·simp at h
  obtain⟨x,hp⟩:=hp;unfold je at hp;split at hp
  case isFalse=>simp at hp
  cases hc:ce g ((av 0::av 0::aI).map wk) []with
  |none=>rw[hc]at hp;simp at hp
  |some r=>exact yi (jz g _ _ r hc)
 have sW:=(jh.1 hH).1;have o8:Holds enc w (ids b) off (Array.range len):=λj hj=>by
  simp only[sM]at hj;have W7:lh j=j:=by show min j (len-1)=j;omega
  have h1:=(zk j).1;rw[W7]at h1;refine⟨?_,?_⟩
  ·simp only[World.cell?,hH]
   rw[getElem!_def,Array.getElem?_range,ae hj];simpa using h1
  ·simp[World.frozen?,hH]
 have key:=Any.slices_SortFunc L enc (λi=>(zk i).2.2) (λi j=>K (wd i) (wd j)) (ag7 hK wd) g cb.toArray (ids b) off cap (Array.range len) w eg
  (ag5 dM hg ox WV (λi=>(zk i).2.1) zl) o8 sW (by simp[dG]at fS ⊢;omega)
 simp only[sM]at key;rw[e1,e2];refine key.mono ?_;rintro e w' ⟨rfl,d', n,os,hp,hs,rfl⟩;obtain⟨p1,_,p3⟩:=hp;simp only[sM]at p1 p3;have zm:d'.toList.Perm (List.range len):=by
  have e3:(d'.extract 0 len).toList=d'.toList:=by rw[<-p1];simp
  have e4:((Array.range len).extract 0 len).toList=List.range len:=by
   have:(Array.range len).extract 0 len=Array.range len:=by
    have:=Array.extract_size (xs:=Array.range len)
    rwa [sM]at this
   rw[this];simp
  rw[e3,e4]at p3;exact p3
 have zn:(List.range len).map av=D:=by
  apply List.ext_getElem? λi=>?_;rw[iv]
  by_cases hi:i<len
  ·rw[List.getElem?_range hi]
   have:=hav i;rw[show lh i=i by show min i (len-1)=i;omega]at this
   rw[this];rfl
  ·rw[jH (by simp;omega),jH (by omega)];rfl
 have vJ:d'.toList.map av=ef K D:=by
  refine No hK (λx hx=>?_) (by rw[<-zn];exact zm.map av) ?_
  ·obtain⟨p,q,h1,_⟩:=ru pO hx hx
   exact⟨p,h1⟩
  ·rw[List.pairwise_map,rC]
   intro i j hi hj qm;simp only[nK]at hi hj;have:=hs i j (Nat.zero_le _) qm (by omega)
   rw[getElem!_pos d' j hj,getElem!_pos d' i hi]at this;simp only[ltOf,wm,Int.not_lt]at this;rw[rr (GG _) (GG _),hK.gJ];simp only[Array.getElem_toList];omega
 have Qy:(ef K D).length=len:=by rw[<-vJ];simp[p1]
 obtain⟨g1,g2⟩:=ui (vals:=d'.toList.map enc) (new:=ef K D) (off:=off) hg bO dP (mD (u:=0) hb) hH (by omega) (by rw[Qy];simp[p1]) (λi q hi=>by
  rw[<-vJ,iv]at hi;cases hd:d'.toList[i]? with
  |none=>rw[hd]at hi;simp at hi
  |some k=>
   rw[hd]at hi;simp at hi;subst hi;exact⟨enc k,by rw[iv,hd];rfl,(zk k).2.1,(zk k).2.2⟩)
 obtain⟨pl,_⟩:=rh B.cells (ef K D) off (by omega)
 have eS:=oM (ids:=ids) (I:=I) (id' :=ids b) (B' :=⟨B.k,putAt B.cells off (ef K D),B.st⟩) hb jm;have j9:(λq=>if q=b then ids b else ids q)=ids:=by funext q;split<;>simp_all
 rw[j9]at eS;obtain⟨f1,f2⟩:=Good.shrink (C2:=af (az σ b ⟨B.k,putAt B.cells off (ef K D),B.st⟩) ids I) g1 rfl (λb1 u1 e1 h1=>by
  have:=eS b1 u1 e1 h1;simp only[pl]at this;exact this) (λb1 u1 h1=>oN (ids:=ids) (I:=I) hb (by show B.cells.length<=(putAt B.cells off (ef K D)).length;rw[pl];exact bA _) b1 u1 h1)
 obtain⟨r1,r2⟩:=ag6 (enc:=enc) (off:=off) (n:=n) (os:=os) (d' :=d') hH (by rw[p1];omega)
 have du:∀k,k<(w.setRow (ids b) (c.toList.take off++d'.toList.map enc++c.toList.drop (off+(d'.toList.map enc).length)).toArray).heap.size->(sortWorld enc w (ids b) off n d' os).heap[k]? = (w.setRow (ids b) (c.toList.take off++d'.toList.map enc++c.toList.drop (off+(d'.toList.map enc).length)).toArray).heap[k]?:=λk hk=>r2 k (by rwa [nH]at hk)
 obtain⟨q1,q2⟩:=f1.oB r1 du I (λ_ h=>h) (λk hk=>Nat.lt_of_lt_of_le (f1.I k hk) r1) (λk hk=>.inl hk) rfl ⟨rfl,by show w.drawn<=w.drawn+n;omega⟩ rfl
 exact⟨_,ids,I,rfl,q1,by unfold VR;exact⟨[],rfl,rfl⟩,(g2.trans f2).trans q2⟩
theorem ag8{ρ:Ren}(L:SlLaysF.n6 P ρ){f:Nat}(hf:ρ.f 6=f) (hb:cM P f=true):eT P f lO:=by
 subst hf;refine⟨hb,λce dM jz args σ r bp hp ids I w vs hg hv=>?_⟩;have fu:∀(v2:Value) (p:Option Addr) (cap:Nat),Calls P (ρ.f 6) #[.slice p 0 cap,v2] w λe w' =>∃v aJ I', e = .returned v/\Good (af σ aJ I') w' /\VR (af σ aJ I') w'.heap (.bS []) v/\Step (af σ ids I) w (af σ aJ I') w' :=λv2 p cap=>by
  refine(AnyF.slices_SortFunc_none (P:=P) (ρ:=ρ) {L with} p cap v2 w).mono ?_
  rintro e w' ⟨rfl,rfl⟩;exact⟨_,ids,I,rfl,hg,by unfold VR;exact⟨[],rfl,rfl⟩,Step.refl _ _⟩
 unfold lO at hp;split at hp
 ·simp only[bJ,Prod.mk.injEq]at hp
  obtain⟨rfl,rfl⟩:=hp;obtain⟨v1,s1,rfl,dQ,v2,s2,rfl,nN,rfl⟩:=hv;have dQ:v1 = .slice none 0 0:=dQ;subst dQ;exact fu v2 none 0
 ·simp only[bJ,Prod.mk.injEq]at hp
  obtain⟨rfl,rfl⟩:=hp;obtain⟨v1,s1,rfl,dQ,v2,s2,rfl,nN,rfl⟩:=hv;unfold VR at dQ;rcases dQ.2 with⟨_,a,rfl,_⟩|⟨al,off,cap,st,c,el,fz,rfl,_⟩
  ·exact fu v2 a 0
  ·exact fu v2 _ cap
 ·rename_i b u off len g aI
  split at hp
  ·rename_i B hu
   split at hp
   ·rename_i hc
    simp only[aD,eR]at hc;obtain⟨⟨⟨⟨c1,c2⟩,c3⟩,c4⟩,c5⟩:=hc;have dP:B.st = .live:=by revert c1;cases B.st<;>simp[eo.isLive]
    have hk:B.k=none:=by revert c2;cases B.k<;>simp[gX]
    split at hp
    ·rename_i pO
     simp only[bJ,Prod.mk.injEq]at hp;obtain⟨rfl,rfl⟩:=hp;exact Qx L dM jz dK hu dP hk c3 c4 c5 pO hg hv
    ·split at hp
     ·rename_i pO
      simp only[bJ,Prod.mk.injEq]at hp;obtain⟨rfl,rfl⟩:=hp;exact Qx L dM jz Nk hu dP hk c3 c4 c5 pO hg hv
     ·simp at hp
   ·simp at hp
  ·simp at hp
 ·simp at hp
end Ab
