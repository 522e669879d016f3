/- slices.Sort of numbers does what the small language says. Condition: the library's own text, as the kit's contract has walked it. -/
import Derived.Test.YtdenhmniigikcaaGreatAbC
import Derived.Test.YtdenhmniigikcaaGreatAbSortM
import Derived.Shelf.Sort.Plain
import Derived.Shelf.Slices.In.SortNone
set_option linter.all false
namespace Ab
open Go Go.Proofs Go.Shelf Go.Sort
variable{P:Program}
def CI (w:World) (id off n:Nat) (d:Array Int) (os:Array Obj):World:=grow (putRow (Value.int .i64) (Sort.ahead w n) id off d) os
variable{w:World}{id off m:Nat}{dk:Array Int}{os:Array Obj}
theorem XE:(CI w id off m dk os).heap.size=w.heap.size+os.size:=by
 simp[CI,grow,putRow,mapBlock,«Sort».ahead]
theorem XF{k:Nat}(h:k<w.heap.size) (a:k ≠ id):(CI w id off m dk os).heap[k]? = w.heap[k]?:=by
 simp only[CI,grow,putRow,mapBlock,«Sort».ahead];rw[kq (by simpa using h),qQ,aa (by omega)]
theorem XG{n:Nat}{d' : Array Int}{c:Array Value}{el:TypeId}(d:w.heap[id]? = some (.cells c el (0,0))) (g:off+d'.size<=c.size) :
  (w.setRow id (c.toList.take off++d'.toList.map (Value.int .i64)++c.toList.drop (off+(d'.toList.map (Value.int .i64)).length)).toArray).heap.size<=(CI w id off n d' os).heap.size/\
  ∀k,k<w.heap.size->(CI w id off n d' os).heap[k]? = (w.setRow id (c.toList.take off++d'.toList.map (Value.int .i64)++c.toList.drop (off+(d'.toList.map (Value.int .i64)).length)).toArray).heap[k]?:=by
 refine⟨by rw[mJ,XE];omega,λk h=>?_⟩
 by_cases e:k=id
 .subst e
  rw[setRow_heap w k c _ el (0,0) d];simp only[CI,grow,putRow,mapBlock,«Sort».ahead];rw[kq (by simpa using h),qQ,ab rfl,d]
  simp only[l6,onCells,bJ,kv,and_true];apply Array.ext_getElem?;intro i;have a:∀L:List Value,L.toArray[i]? = L[i]?:=λL=>by simp
  rw[a (c.toList.take off++d'.toList.map (Value.int .i64)++c.toList.drop (off+(d'.toList.map (Value.int .i64)).length))];simp only[putCells,Array.getElem?_mapIdx,cY,mK]
  by_cases j:i<off
  .rw[iw,eC (by simp;omega),sU,ab j,iu]
   cases l:c[i]? with
   |none=>rfl
   |some v=>simp;omega
  .by_cases m:i<off+d'.size
   .rw[eC (by simp;omega),eK (by simp;omega),fS]
    have b:i<c.size:=by omega
    rw[ku b];simp only[nw,mK,l6];rw[ab (by omega),show min off c.size=off by omega,iu,ku (by omega)]
    simp[getElem!_def,ku (show i-off<d'.size by omega)]
   .rw[eK (by simp;omega),kz,iu]
    simp only[aY,nw,mK,cY];rw[show off+d'.size+(i-(min off c.size+d'.size))=i by omega]
    cases l:c[i]? with
    |none=>rfl
    |some v=>simp;omega
 .rw[XF h e,jy w id _ e]
variable{ρ:Ren}
theorem XH(L:Lays.n189 P ρ){b u len:Nat}{σ:List ah}{B:ah}{zs:List Int}(X:upto σ b u=some B) (a:B.st = .live) (G:B.k=none) (hlen:0<len) (Y:off+len<=B.cells.length) (K:B.cells.length<=dz)
  (Z:(B.cells.drop off).take len=zs.map .int) {ids:Nat->Nat} {I:Nat->Prop}  {vs:List Value} (hg:Good (ad σ ids I) w) (hv:bW (ad σ ids I) w.heap [.sl b u off len] vs) :
  Calls P (ρ.f 189) vs.toArray w λe w' =>∃v d I', e = .returned v/\Good (ad (ar σ b ⟨B.k,putAt B.cells off ((cg zs).map .int),B.st⟩) d I') w' /\VR (ad (ar σ b ⟨B.k,putAt B.cells off ((cg zs).map .int),B.st⟩) d I') w'.heap (.bF []) v/\
   Step (ad σ ids I) w (ad (ar σ b ⟨B.k,putAt B.cells off ((cg zs).map .int),B.st⟩) d I') w' :=by
 obtain⟨Q,R,S⟩:=qV X;have g:=mG ids I X;subst R;obtain⟨v1,s1,rfl,m,rfl⟩:=hv;unfold VR at m;have m:=m.2.2 B _ g;rw[a]at m;obtain⟨c,el,o,cap,H,O,M,VZ,wa⟩:=m;rw[M (by omega)]at O
 obtain⟨Uo,c', zb, A, hle,r⟩:=hg.live b _ B _ g a;rw[H]at A;simp only[bJ,kv]at A;obtain⟨rfl,rfl,_⟩:=A;have C:zs.length=len:=by
  have:=congrArg List.length Z;simp at this;omega
 have D:∀i,i<len->B.cells[off+i]? = (zs[i]?).map AV.int:=λi p=>by
  have:=congrArg (λl=>l[i]?) Z;simp only[sU,ab p,kz,fS]at this;exact this
 have hc:∀i z,zs[i]? = some z->c[off+i]? = some (Value.int .i64 z):=λi z hz=>by
  have p:i<len:=by rw[<-C];exact(dq.1 hz).1
  have J:=D i p;rw[hz]at J;obtain⟨y,k1,k2,k3⟩:=r _ _ J;rw[k1];have:y=Value.int .i64 z:=k2.ba;rw[this]
 have E:=(ju.1 H).1;have s:Holds (Value.int .i64) w (ids b) off zs.toArray:=λj T=>by
  simp only[List.size_toArray]at T;refine⟨?_,?_⟩
  .simp only[World.cell?,H]
   rw[getElem!_pos zs.toArray j (by simpa using T)]
   simpa using hc j zs[j] (cO T)
  .simp[World.frozen?,H]
 have key:=Any.slices_Sort_int L (ids b) off cap zs w s E (by simp[dz]at K ⊢;omega)
 rw[C]at key;rw[O];refine key.mono ?_;rintro e w' ⟨rfl,n,os,rfl⟩;rw[WL];have U:(cg zs).length=len:=by rw[(uT zs).length_eq,C]
 obtain⟨g1,g2⟩:=uN (vals:=(cg zs).map (Value.int .i64)) (new:=(cg zs).map .int) (off:=off) hg g a (mM (u:=0) Q) H (by simp;omega) (by simp) (λi q p=>by
  rw[fS]at p;cases hd:(cg zs)[i]? with
  |none=>rw[hd]at p;simp at p
  |some k=>
   rw[hd]at p;simp at p;subst p;exact⟨Value.int .i64 k,by rw[fS,hd];rfl,rfl,rfl⟩)
 obtain⟨pl,_⟩:=qU B.cells ((cg zs).map .int) off (by simp;omega)
 have x:=oR (ids:=ids) (I:=I) (id' :=ids b) (B' :=⟨B.k,putAt B.cells off ((cg zs).map .int),B.st⟩) Q S;have N:(λq=>if q=b then ids b else ids q)=ids:=by funext q;split<;>simp_all
 rw[N]at x;obtain⟨f1,f2⟩:=Good.shrink (C2:=ad (ar σ b ⟨B.k,putAt B.cells off ((cg zs).map .int),B.st⟩) ids I) g1 rfl (λb1 V O J=>by
  have:=x b1 V O J;simp only[pl]at this;exact this) (λb1 V J=>oS (ids:=ids) (I:=I) Q (by show B.cells.length<=(putAt B.cells off ((cg zs).map .int)).length;rw[pl];exact aT _) b1 V J)
 have XI:(((cg zs).map (Value.int .i64)).length)=len:=by simp[U]
 obtain⟨W,r2⟩:=XG (off:=off) (n:=n) (os:=os) (d' :=(cg zs).toArray) H (by simp;omega)
 simp only[List.toList_toArray]at W r2;have F:∀k,k<(w.setRow (ids b) (c.toList.take off++(cg zs).map (Value.int .i64)++c.toList.drop (off+((cg zs).map (Value.int .i64)).length)).toArray).heap.size->(CI w (ids b) off n (cg zs).toArray os).heap[k]? = (w.setRow (ids b) (c.toList.take off++(cg zs).map (Value.int .i64)++c.toList.drop (off+((cg zs).map (Value.int .i64)).length)).toArray).heap[k]?:=λk G=>r2 k (by rwa [mJ]at G)
 obtain⟨q1,q2⟩:=f1.nq W F I (λ_ h=>h) (λk G=>sH (f1.I k G) W) (λk G=>.inl G) rfl ⟨rfl,by show w.drawn<=w.drawn+n;omega⟩ rfl
 exact⟨_,ids,I,rfl,q1,by unfold VR;exact⟨[],rfl,rfl⟩,(g2.trans f2).trans q2⟩
theorem XJ(L:Lays.n189 P ρ){f:Nat}(l:ρ.f 189=f) (m:cz P f=true):et P f jG:=by
 subst l;refine⟨m,λce n o args σ r p a ids I w vs h i=>?_⟩;unfold jG at a;split at a
 .simp only[bJ,Prod.mk.injEq]at a
  obtain⟨rfl,rfl⟩:=a;obtain⟨q,F,rfl,d,rfl⟩:=i;have d:q = .slice none 0 0:=d;subst d;refine(Any.slices_Sort_int_none L none 0 w).mono ?_;rintro e w' ⟨rfl,rfl⟩;exact⟨_,ids,I,rfl,h,by unfold VR;exact⟨[],rfl,rfl⟩,Step.refl _ _⟩
 .rename_i b u off len
  split at a
  .rename_i B s
   split at a
   .rename_i j
    simp only[aA,dY]at j;obtain⟨⟨⟨⟨x,y⟩,z⟩,A⟩,C⟩:=j;have g:B.st = .live:=by revert x;cases B.st<;>simp[eM.isLive]
    have D:B.k=none:=by revert y;cases B.k<;>simp[gv]
    split at a
    .rename_i zs E
     simp only[bJ,Prod.mk.injEq]at a;obtain⟨rfl,rfl⟩:=a;exact XH L s g D z A C (DV E) h i
    .simp at a
   .simp at a
  .simp at a
 .simp at a
end Ab
