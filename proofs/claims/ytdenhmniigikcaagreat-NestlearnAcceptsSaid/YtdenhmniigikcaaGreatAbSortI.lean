/- slices.Sort of numbers does what the small language says. Condition: the library's own text, as the kit's contract has walked it. -/
import Derived.Test.YtdenhmniigikcaaGreatAbC
import Derived.Test.YtdenhmniigikcaaGreatAbSortM
import Derived.Shelf.Sort.Plain
import Derived.Shelf.Slices.In.SortNone
set_option linter.all false
namespace Ab
open Go Go.Proofs Go.Shelf Go.Sort
variable{P:Program}
def Gu (w:World) (id off n:Nat) (d:Array Int) (os:Array Obj):World:=grow (putRow (Value.int .i64) (Sort.ahead w n) id off d) os
theorem aav{w:World}{id off m:Nat}{dk:Array Int}{os:Array Obj}:(Gu w id off m dk os).heap.size=w.heap.size+os.size:=by
 simp[Gu,grow,putRow,mapBlock,«Sort».ahead]
theorem aaw{w:World}{id off m:Nat}{dk:Array Int}{os:Array Obj}{k:Nat}(h:k<w.heap.size) (b8:k ≠ id):(Gu w id off m dk os).heap[k]? = w.heap[k]?:=by
 simp only[Gu,grow,putRow,mapBlock,«Sort».ahead];rw[kV (by simpa using h),sx,ab (by omega)]
theorem aax{w:World}{id off n:Nat}{d' : Array Int}{os:Array Obj}{c:Array Value}{el:TypeId}(hH:w.heap[id]? = some (.cells c el (0,0))) (fE:off+d'.size<=c.size) :
  (w.setRow id (c.toList.take off++d'.toList.map (Value.int .i64)++c.toList.drop (off+(d'.toList.map (Value.int .i64)).length)).toArray).heap.size<=(Gu w id off n d' os).heap.size/\
  ∀k,k<w.heap.size->(Gu w id off n d' os).heap[k]? = (w.setRow id (c.toList.take off++d'.toList.map (Value.int .i64)++c.toList.drop (off+(d'.toList.map (Value.int .i64)).length)).toArray).heap[k]?:=by
 refine⟨by rw[nH,aav];omega,λk hk=>?_⟩
 by_cases e:k=id
 ·subst e
  rw[setRow_heap w k c _ el (0,0) hH];simp only[Gu,grow,putRow,mapBlock,«Sort».ahead];rw[kV (by simpa using hk),sx,ae rfl,hH]
  simp only[lK,onCells,bJ,kH,and_true];apply Array.ext_getElem?;intro i;have N7:∀L:List Value,L.toArray[i]? = L[i]?:=λL=>by simp
  rw[N7 (c.toList.take off++d'.toList.map (Value.int .i64)++c.toList.drop (off+(d'.toList.map (Value.int .i64)).length))];simp only[putCells,Array.getElem?_mapIdx,dR,nK]
  by_cases h1:i<off
  ·rw[iW,fw (by simp;omega),uv,ae h1,iV]
   cases hc:c[i]? with
   |none=>rfl
   |some v=>simp;omega
  ·by_cases h2:i<off+d'.size
   ·rw[fw (by simp;omega),gv (by simp;omega),iv]
    have aK:i<c.size:=by omega
    rw[jl aK];simp only[mB,nK,lK];rw[ae (by omega),show min off c.size=off by omega,iV,jl (by omega)]
    simp[getElem!_def,jl (show i-off<d'.size by omega)]
   ·rw[gv (by simp;omega),lH,iV]
    simp only[bz,mB,nK,dR];rw[show off+d'.size+(i-(min off c.size+d'.size))=i by omega]
    cases hc:c[i]? with
    |none=>rfl
    |some v=>simp;omega
 ·rw[aaw hk e,jY w id _ e]
theorem aay{ρ:Ren}(L:Lays.n189 P ρ){b u off len:Nat}{σ:List ag}{B:ag}{zs:List Int}(hu:upto σ b u=some B) (dP:B.st = .live) (hk:B.k=none) (hlen:0<len) (fE:off+len<=B.cells.length) (fS:B.cells.length<=dG)
  (hD:(B.cells.drop off).take len=zs.map .int) {ids:Nat->Nat} {I:Nat->Prop} {w:World} {vs:List Value} (hg:Good (af σ ids I) w) (hv:cm (af σ ids I) w.heap [.sl b u off len] vs) :
  Calls P (ρ.f 189) vs.toArray w λe w' =>∃v aJ I', e = .returned v/\Good (af (az σ b ⟨B.k,putAt B.cells off ((cC zs).map .int),B.st⟩) aJ I') w' /\VR (af (az σ b ⟨B.k,putAt B.cells off ((cC zs).map .int),B.st⟩) aJ I') w'.heap (.bS []) v/\
   Step (af σ ids I) w (af (az σ b ⟨B.k,putAt B.cells off ((cC zs).map .int),B.st⟩) aJ I') w' :=by
 obtain⟨hb,oJ,jm⟩:=rj hu;have bO:=lF ids I hu;subst oJ;obtain⟨v1,s1,rfl,dQ,rfl⟩:=hv;unfold VR at dQ;have dQ:=dQ.2.2 B _ bO;rw[dP]at dQ;obtain⟨c,el,o,cap,hH,e1,mE,MP,jO⟩:=dQ;rw[mE (by omega)]at e1
 obtain⟨WV,c', mi, r7, hle,j8⟩:=hg.live b _ B _ bO dP;rw[hH]at r7;simp only[bJ,kH]at r7;obtain⟨rfl,rfl,_⟩:=r7;have r5:zs.length=len:=by
  have:=congrArg List.length hD;simp at this;omega
 have sV:∀i,i<len->B.cells[off+i]? = (zs[i]?).map AV.int:=λi hi=>by
  have:=congrArg (λl=>l[i]?) hD;simp only[uv,ae hi,lH,iv]at this;exact this
 have hc:∀i z,zs[i]? = some z->c[off+i]? = some (Value.int .i64 z):=λi z hz=>by
  have hi:i<len:=by rw[<-r5];exact(cV.1 hz).1
  have h1:=sV i hi;rw[hz]at h1;obtain⟨y,k1,k2,k3⟩:=j8 _ _ h1;rw[k1];have:y=Value.int .i64 z:=k2.ba;rw[this]
 have sW:=(jh.1 hH).1;have o8:Holds (Value.int .i64) w (ids b) off zs.toArray:=λj hj=>by
  simp only[List.size_toArray]at hj;refine⟨?_,?_⟩
  ·simp only[World.cell?,hH]
   rw[getElem!_pos zs.toArray j (by simpa using hj)]
   simpa using hc j zs[j] (de hj)
  ·simp[World.frozen?,hH]
 have key:=Any.slices_Sort_int L (ids b) off cap zs w o8 sW (by simp[dG]at fS ⊢;omega)
 rw[r5]at key;rw[e1];refine key.mono ?_;rintro e w' ⟨rfl,n,os,rfl⟩;rw[ZI];have hZ:(cC zs).length=len:=by rw[(wi zs).length_eq,r5]
 obtain⟨g1,g2⟩:=ui (vals:=(cC zs).map (Value.int .i64)) (new:=(cC zs).map .int) (off:=off) hg bO dP (mD (u:=0) hb) hH (by simp;omega) (by simp) (λi q hi=>by
  rw[iv]at hi;cases hd:(cC zs)[i]? with
  |none=>rw[hd]at hi;simp at hi
  |some k=>
   rw[hd]at hi;simp at hi;subst hi;exact⟨Value.int .i64 k,by rw[iv,hd];rfl,rfl,rfl⟩)
 obtain⟨pl,_⟩:=rh B.cells ((cC zs).map .int) off (by simp;omega)
 have eS:=oM (ids:=ids) (I:=I) (id' :=ids b) (B' :=⟨B.k,putAt B.cells off ((cC zs).map .int),B.st⟩) hb jm;have j9:(λq=>if q=b then ids b else ids q)=ids:=by funext q;split<;>simp_all
 rw[j9]at eS;obtain⟨f1,f2⟩:=Good.shrink (C2:=af (az σ b ⟨B.k,putAt B.cells off ((cC zs).map .int),B.st⟩) ids I) g1 rfl (λb1 u1 e1 h1=>by
  have:=eS b1 u1 e1 h1;simp only[pl]at this;exact this) (λb1 u1 h1=>oN (ids:=ids) (I:=I) hb (by show B.cells.length<=(putAt B.cells off ((cC zs).map .int)).length;rw[pl];exact bA _) b1 u1 h1)
 have Ye:(((cC zs).map (Value.int .i64)).length)=len:=by simp[hZ]
 obtain⟨r1,r2⟩:=aax (off:=off) (n:=n) (os:=os) (d' :=(cC zs).toArray) hH (by simp;omega)
 simp only[List.toList_toArray]at r1 r2;have du:∀k,k<(w.setRow (ids b) (c.toList.take off++(cC zs).map (Value.int .i64)++c.toList.drop (off+((cC zs).map (Value.int .i64)).length)).toArray).heap.size->(Gu w (ids b) off n (cC zs).toArray os).heap[k]? = (w.setRow (ids b) (c.toList.take off++(cC zs).map (Value.int .i64)++c.toList.drop (off+((cC zs).map (Value.int .i64)).length)).toArray).heap[k]?:=λk hk=>r2 k (by rwa [nH]at hk)
 obtain⟨q1,q2⟩:=f1.oB r1 du I (λ_ h=>h) (λk hk=>Nat.lt_of_lt_of_le (f1.I k hk) r1) (λk hk=>.inl hk) rfl ⟨rfl,by show w.drawn<=w.drawn+n;omega⟩ rfl
 exact⟨_,ids,I,rfl,q1,by unfold VR;exact⟨[],rfl,rfl⟩,(g2.trans f2).trans q2⟩
theorem aaz{ρ:Ren}(L:Lays.n189 P ρ){f:Nat}(hf:ρ.f 189=f) (hb:cM P f=true):eT P f kh:=by
 subst hf;refine⟨hb,λce dM jz args σ r bp hp ids I w vs hg hv=>?_⟩;unfold kh at hp;split at hp
 ·simp only[bJ,Prod.mk.injEq]at hp
  obtain⟨rfl,rfl⟩:=hp;obtain⟨v1,s1,rfl,dQ,rfl⟩:=hv;have dQ:v1 = .slice none 0 0:=dQ;subst dQ;refine(Any.slices_Sort_int_none L none 0 w).mono ?_;rintro e w' ⟨rfl,rfl⟩;exact⟨_,ids,I,rfl,hg,by unfold VR;exact⟨[],rfl,rfl⟩,Step.refl _ _⟩
 ·rename_i b u off len
  split at hp
  ·rename_i B hu
   split at hp
   ·rename_i hc
    simp only[aD,eR]at hc;obtain⟨⟨⟨⟨c1,c2⟩,c3⟩,c4⟩,c5⟩:=hc;have dP:B.st = .live:=by revert c1;cases B.st<;>simp[eo.isLive]
    have hk:B.k=none:=by revert c2;cases B.k<;>simp[gX]
    split at hp
    ·rename_i zs hz
     simp only[bJ,Prod.mk.injEq]at hp;obtain⟨rfl,rfl⟩:=hp;exact aay L hu dP hk c3 c4 c5 (HZ hz) hg hv
    ·simp at hp
   ·simp at hp
  ·simp at hp
 ·simp at hp
end Ab
