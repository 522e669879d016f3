/- slices.Sort of numbers does what the small language says. Condition: the library's own text, as the kit's contract has walked it. -/
import Derived.Test.YtdenhmniigikcaaGreatAbC
import Derived.Test.YtdenhmniigikcaaGreatAbSortM
import Derived.Shelf.Sort.Plain
import Derived.Shelf.Slices.In.SortNone
set_option linter.all false
namespace Ab
open Go Go.Proofs Go.Shelf Go.Sort
variable{P:Program}
def FY (w:World) (id off n:Nat) (d:Array Int) (os:Array Obj):World:=grow (putRow (Value.int .i64) (Sort.ahead w n) id off d) os
theorem ZX{w:World}{id off m:Nat}{dk:Array Int}{os:Array Obj}:(FY w id off m dk os).heap.size=w.heap.size+os.size:=by
 simp[FY,grow,putRow,mapBlock,«Sort».ahead]
theorem ZY{w:World}{id off m:Nat}{dk:Array Int}{os:Array Obj}{k:Nat}(h:k<w.heap.size) (bY:k ≠ id):(FY w id off m dk os).heap[k]? = w.heap[k]?:=by
 simp only[FY,grow,putRow,mapBlock,«Sort».ahead];rw[kS (by simpa using h),su,aa (by omega)]
theorem ZZ{w:World}{id off n:Nat}{d' : Array Int}{os:Array Obj}{c:Array Value}{el:TypeId}(hH:w.heap[id]? = some (.cells c el (0,0))) (fA:off+d'.size<=c.size) :
  (w.setRow id (c.toList.take off++d'.toList.map (Value.int .i64)++c.toList.drop (off+(d'.toList.map (Value.int .i64)).length)).toArray).heap.size<=(FY w id off n d' os).heap.size/\
  ∀k,k<w.heap.size->(FY w id off n d' os).heap[k]? = (w.setRow id (c.toList.take off++d'.toList.map (Value.int .i64)++c.toList.drop (off+(d'.toList.map (Value.int .i64)).length)).toArray).heap[k]?:=by
 refine⟨by rw[nw,ZX];omega,λk hk=>?_⟩
 by_cases e:k=id
 ·subst e
  rw[setRow_heap w k c _ el (0,0) hH];simp only[FY,grow,putRow,mapBlock,«Sort».ahead];rw[kS (by simpa using hk),su,ab rfl,hH]
  simp only[lH,onCells,bF,kF,and_true];apply Array.ext_getElem?;intro i;have Nt:∀L:List Value,L.toArray[i]? = L[i]?:=λL=>by simp
  rw[Nt (c.toList.take off++d'.toList.map (Value.int .i64)++c.toList.drop (off+(d'.toList.map (Value.int .i64)).length))];simp only[putCells,Array.getElem?_mapIdx,dR,nD]
  by_cases h1:i<off
  ·rw[iS,ft (by simp;omega),uo,ab h1,iR]
   cases hc:c[i]? with
   |none=>rfl
   |some v=>simp;omega
  ·by_cases h2:i<off+d'.size
   ·rw[ft (by simp;omega),gm (by simp;omega),ie]
    have aK:i<c.size:=by omega
    rw[jg aK];simp only[my,nD,lH];rw[ab (by omega),show min off c.size=off by omega,iR,jg (by omega)]
    simp[getElem!_def,jg (show i-off<d'.size by omega)]
   ·rw[gm (by simp;omega),lE,iR]
    simp only[bu,my,nD,dR];rw[show off+d'.size+(i-(min off c.size+d'.size))=i by omega]
    cases hc:c[i]? with
    |none=>rfl
    |some v=>simp;omega
 ·rw[ZY hk e,jW w id _ e]
theorem Z0{ρ:Ren}(L:Lays.n189 P ρ){b u off len:Nat}{σ:List ag}{B:ag}{zs:List Int}(hu:upto σ b u=some B) (dP:B.st = .live) (hk:B.k=none) (hlen:0<len) (fA:off+len<=B.cells.length) (fP:B.cells.length<=dE)
  (hD:(B.cells.drop off).take len=zs.map .int) {ids:Nat->Nat} {I:Nat->Prop} {w:World} {vs:List Value} (hg:Good (af σ ids I) w) (hv:cd (af σ ids I) w.heap [.sl b u off len] vs) :
  Calls P (ρ.f 189) vs.toArray w λe w' =>∃v aJ I', e = .returned v/\Good (af (ay σ b ⟨B.k,putAt B.cells off ((cA zs).map .int),B.st⟩) aJ I') w' /\VR (af (ay σ b ⟨B.k,putAt B.cells off ((cA zs).map .int),B.st⟩) aJ I') w'.heap (.bQ []) v/\
   Step (af σ ids I) w (af (ay σ b ⟨B.k,putAt B.cells off ((cA zs).map .int),B.st⟩) aJ I') w' :=by
 obtain⟨hb,oE,jh⟩:=q9 hu;have bH:=lC ids I hu;subst oE;obtain⟨v1,s1,rfl,dQ,rfl⟩:=hv;unfold VR at dQ;have dQ:=dQ.2.2 B _ bH;rw[dP]at dQ;obtain⟨c,el,o,cap,hH,e1,mB,Mb,jM⟩:=dQ;rw[mB (by omega)]at e1
 obtain⟨Wf,c', mg, rZ, hle,j6⟩:=hg.live b _ B _ bH dP;rw[hH]at rZ;simp only[bF,kF]at rZ;obtain⟨rfl,rfl,_⟩:=rZ;have rX:zs.length=len:=by
  have:=congrArg List.length hD;simp at this;omega
 have sS:∀i,i<len->B.cells[off+i]? = (zs[i]?).map AV.int:=λi hi=>by
  have:=congrArg (λl=>l[i]?) hD;simp only[uo,ab hi,lE,ie]at this;exact this
 have hc:∀i z,zs[i]? = some z->c[off+i]? = some (Value.int .i64 z):=λi z hz=>by
  have hi:i<len:=by rw[<-rX];exact(cT.1 hz).1
  have h1:=sS i hi;rw[hz]at h1;obtain⟨y,k1,k2,k3⟩:=j6 _ _ h1;rw[k1];have:y=Value.int .i64 z:=k2.aY;rw[this]
 have sT:=(jd.1 hH).1;have oY:Holds (Value.int .i64) w (ids b) off zs.toArray:=λj hj=>by
  simp only[List.size_toArray]at hj;refine⟨?_,?_⟩
  ·simp only[World.cell?,hH]
   rw[getElem!_pos zs.toArray j (by simpa using hj)]
   simpa using hc j zs[j] (dc hj)
  ·simp[World.frozen?,hH]
 have key:=Any.slices_Sort_int L (ids b) off cap zs w oY sT (by simp[dE]at fP ⊢;omega)
 rw[rX]at key;rw[e1];refine key.mono ?_;rintro e w' ⟨rfl,n,os,rfl⟩;rw[Y3];have gV:(cA zs).length=len:=by rw[(wb zs).length_eq,rX]
 obtain⟨g1,g2⟩:=ue (vals:=(cA zs).map (Value.int .i64)) (new:=(cA zs).map .int) (off:=off) hg bH dP (mA (u:=0) hb) hH (by simp;omega) (by simp) (λi q hi=>by
  rw[ie]at hi;cases hd:(cA zs)[i]? with
  |none=>rw[hd]at hi;simp at hi
  |some k=>
   rw[hd]at hi;simp at hi;subst hi;exact⟨Value.int .i64 k,by rw[ie,hd];rfl,rfl,rfl⟩)
 obtain⟨pl,_⟩:=q8 B.cells ((cA zs).map .int) off (by simp;omega)
 have eQ:=oG (ids:=ids) (I:=I) (id' :=ids b) (B' :=⟨B.k,putAt B.cells off ((cA zs).map .int),B.st⟩) hb jh;have j7:(λq=>if q=b then ids b else ids q)=ids:=by funext q;split<;>simp_all
 rw[j7]at eQ;obtain⟨f1,f2⟩:=Good.shrink (C2:=af (ay σ b ⟨B.k,putAt B.cells off ((cA zs).map .int),B.st⟩) ids I) g1 rfl (λb1 u1 e1 h1=>by
  have:=eQ b1 u1 e1 h1;simp only[pl]at this;exact this) (λb1 u1 h1=>oH (ids:=ids) (I:=I) hb (by show B.cells.length<=(putAt B.cells off ((cA zs).map .int)).length;rw[pl];exact bw _) b1 u1 h1)
 have XB:(((cA zs).map (Value.int .i64)).length)=len:=by simp[gV]
 obtain⟨r1,r2⟩:=ZZ (off:=off) (n:=n) (os:=os) (d' :=(cA zs).toArray) hH (by simp;omega)
 simp only[List.toList_toArray]at r1 r2;have dt:∀k,k<(w.setRow (ids b) (c.toList.take off++(cA zs).map (Value.int .i64)++c.toList.drop (off+((cA zs).map (Value.int .i64)).length)).toArray).heap.size->(FY w (ids b) off n (cA zs).toArray os).heap[k]? = (w.setRow (ids b) (c.toList.take off++(cA zs).map (Value.int .i64)++c.toList.drop (off+((cA zs).map (Value.int .i64)).length)).toArray).heap[k]?:=λk hk=>r2 k (by rwa [nw]at hk)
 obtain⟨q1,q2⟩:=f1.ou r1 dt I (λ_ h=>h) (λk hk=>Nat.lt_of_lt_of_le (f1.I k hk) r1) (λk hk=>.inl hk) rfl ⟨rfl,by show w.drawn<=w.drawn+n;omega⟩ rfl
 exact⟨_,ids,I,rfl,q1,by unfold VR;exact⟨[],rfl,rfl⟩,(g2.trans f2).trans q2⟩
theorem Z1{ρ:Ren}(L:Lays.n189 P ρ){f:Nat}(hf:ρ.f 189=f) (hb:cJ P f=true):eR P f kf:=by
 subst hf;refine⟨hb,λce dM jw args σ r bp hp ids I w vs hg hv=>?_⟩;unfold kf at hp;split at hp
 ·simp only[bF,Prod.mk.injEq]at hp
  obtain⟨rfl,rfl⟩:=hp;obtain⟨v1,s1,rfl,dQ,rfl⟩:=hv;have dQ:v1 = .slice none 0 0:=dQ;subst dQ;refine(Any.slices_Sort_int_none L none 0 w).mono ?_;rintro e w' ⟨rfl,rfl⟩;exact⟨_,ids,I,rfl,hg,by unfold VR;exact⟨[],rfl,rfl⟩,Step.refl _ _⟩
 ·rename_i b u off len
  split at hp
  ·rename_i B hu
   split at hp
   ·rename_i hc
    simp only[aD,eP]at hc;obtain⟨⟨⟨⟨c1,c2⟩,c3⟩,c4⟩,c5⟩:=hc;have dP:B.st = .live:=by revert c1;cases B.st<;>simp[eo.isLive]
    have hk:B.k=none:=by revert c2;cases B.k<;>simp[gR]
    split at hp
    ·rename_i zs hz
     simp only[bF,Prod.mk.injEq]at hp;obtain⟨rfl,rfl⟩:=hp;exact Z0 L hu dP hk c3 c4 c5 (Hr hz) hg hv
    ·simp at hp
   ·simp at hp
  ·simp at hp
 ·simp at hp
end Ab
