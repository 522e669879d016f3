/- slices.Sort of numbers does what the small language says. Condition: the library's own text, as the kit's contract has walked it. -/
import Derived.Test.YtdenhmniigikcaaGreatAbC
import Derived.Test.YtdenhmniigikcaaGreatAbSortM
import Derived.Shelf.Sort.Plain
import Derived.Shelf.Slices.In.SortNone
set_option linter.all false
namespace Ab
open Go Go.Proofs Go.Shelf Go.Sort
variable{P:Program}
def Ey (w:World) (id off n:Nat) (d:Array Int) (os:Array Obj):World:=grow (putRow (Value.int .i64) (Sort.ahead w n) id off d) os
variable{w:World}{id off m:Nat}{dk:Array Int}{os:Array Obj}
def aaC:(Ey w id off m dk os).heap.size=w.heap.size+os.size:=by
 simp[Ey,grow,putRow,mapBlock,«Sort».ahead]
def aaD{k:Nat}(h:k<w.heap.size) (a:k ≠ id):(Ey w id off m dk os).heap[k]? = w.heap[k]?:=by
 simp only[Ey,grow,putRow,mapBlock,«Sort».ahead];rw[lq cq,sD,ad aa]
def aaE{n:Nat}{d' : Array Int}{c:Array Value}{el:TypeId}(d:w.heap[id]? = some (.cells c el (0,0))) (g:off+d'.size<=c.size) :
  (w.setRow id (c.toList.take off++d'.toList.map (Value.int .i64)++c.toList.drop (off+(d'.toList.map (Value.int .i64)).length)).toArray).heap.size<=(Ey w id off n d' os).heap.size/\
  ∀k,k<w.heap.size->(Ey w id off n d' os).heap[k]? = (w.setRow id (c.toList.take off++d'.toList.map (Value.int .i64)++c.toList.drop (off+(d'.toList.map (Value.int .i64)).length)).toArray).heap[k]?:=by
 refine⟨by rw[od,aaC];omega,λk h=>?_⟩
 by_cases e:k=id
 .subst e
  rw[setRow_heap w k c _ el (0,0) d];simp only[Ey,grow,putRow,mapBlock,«Sort».ahead];rw[lq cq,sD,ae rfl,d]
  simp only[mS,onCells,bT,lC,and_true];apply Array.ext_getElem?;intro i;have a:∀L:List Value,L.toArray[i]? = L[i]?:=λL=>ab
  rw[a (c.toList.take off++d'.toList.map (Value.int .i64)++c.toList.drop (off+(d'.toList.map (Value.int .i64)).length))];simp only[putCells,Array.getElem?_mapIdx,dA,oh]
  by_cases j:i<off
  .rw[gZ,eJ ax,uz,ae j,ja]
   cases l:c[i]? with
   |none=>rfl
   |some v=>simp;omega
  .by_cases m:i<off+d'.size
   .rw[eJ ax,gA ax,iv]
    have b:i<c.size:=aa
    rw[lB b];simp only[og,oh,mS];rw[ae aa,show min off c.size=off by omega,ja,lB aa]
    simp[getElem!_def,lB (show i-off<d'.size by omega)]
   .rw[gA ax,mP,ja]
    simp only[aU,og,oh,dA];rw[show off+d'.size+(i-(min off c.size+d'.size))=i by omega]
    cases l:c[i]? with
    |none=>rfl
    |some v=>simp;omega
 .rw[aaD h e,ki w id _ e]
variable{ρ:Ren}
def aaF(L:Lays.n189 P ρ){b u len:Nat}{σ:List al}{B:al}{zs:List Int}(X:upto σ b u=some B) (a:B.st = .live) (G:B.k=none) (hlen:0<len) (Y:off+len<=B.cells.length) (K:B.cells.length<=dK)
  (Z:(B.cells.drop off).take len=zs.map .int) {ids:Nat->Nat} {I:Nat->Prop}  {vs:List Value} (hg:Good (af σ ids I) w) (hv:cj (af σ ids I) w.heap [.sl b u off len] vs) :
  Calls P (ρ.f 189) vs.toArray w λe w' =>∃v d I', e = .returned v/\Good (af (ar σ b ⟨B.k,putAt B.cells off ((cB zs).map .int),B.st⟩) d I') w' /\VR (af (ar σ b ⟨B.k,putAt B.cells off ((cB zs).map .int),B.st⟩) d I') w'.heap (.bM []) v/\
   Step (af σ ids I) w (af (ar σ b ⟨B.k,putAt B.cells off ((cB zs).map .int),B.st⟩) d I') w' :=by
 obtain⟨Q,R,S⟩:=sI X;have g:=nX ids I X;subst R;obtain⟨v1,s1,rfl,m,rfl⟩:=hv;unfold VR at m;have m:=m.2.2 B _ g;rw[a]at m;obtain⟨c,el,o,cap,H,O,M,Za,xT⟩:=m;rw[M aa]at O
 obtain⟨Ez,c', AM, A, hle,r⟩:=hg.live b _ B _ g a;rw[H]at A;simp only[bT,lC]at A;obtain⟨rfl,rfl,_⟩:=A;have C:zs.length=len:=by
  have:=congrArg List.length Z;simp at this;omega
 have D:∀i,i<len->B.cells[off+i]? = (zs[i]?).map AV.int:=λi p=>by
  have:=congrArg (λl=>l[i]?) Z;simp only[uz,ae p,mP,iv]at this;exact this
 have hc:∀i z,zs[i]? = some z->c[off+i]? = some (Value.int .i64 z):=λi z hz=>by
  have p:i<len:=by rw[<-C];exact(dC.1 hz).1
  have J:=D i p;rw[hz]at J;obtain⟨y,k1,k2,k3⟩:=r _ _ J;rw[k1];have:y=Value.int .i64 z:=k2.bt;rw[this]
 have E:=(ke.1 H).1;have s:Holds (Value.int .i64) w (ids b) off zs.toArray:=λj T=>by
  simp only[List.size_toArray]at T;refine⟨?_,?_⟩
  .simp only[World.cell?,H]
   rw[getElem!_pos zs.toArray j (by simpa using T)]
   simpa using hc j zs[j] (db T)
  .simp[World.frozen?,H]
 have key:=Any.slices_Sort_int L (ids b) off cap zs w s E (by simp[dK]at K ⊢;omega)
 rw[C]at key;rw[O];refine key.mono ?_;rintro e w' ⟨rfl,n,os,rfl⟩;rw[ZV];have U:(cB zs).length=len:=by rw[(wF zs).length_eq,C]
 obtain⟨g1,g2⟩:=wz (vals:=(cB zs).map (Value.int .i64)) (new:=(cB zs).map .int) (off:=off) hg g a (oo (u:=0) Q) H ax ab (λi q p=>by
  rw[iv]at p;cases hd:(cB zs)[i]? with
  |none=>rw[hd]at p;simp at p
  |some k=>
   rw[hd]at p;simp at p;subst p;exact⟨Value.int .i64 k,by rw[iv,hd];rfl,rfl,rfl⟩)
 obtain⟨pl,_⟩:=sH B.cells ((cB zs).map .int) off ax
 have x:=qd (ids:=ids) (I:=I) (id' :=ids b) (B' :=⟨B.k,putAt B.cells off ((cB zs).map .int),B.st⟩) Q S;have N:(λq=>if q=b then ids b else ids q)=ids:=km
 rw[N]at x;obtain⟨f1,f2⟩:=Good.shrink (C2:=af (ar σ b ⟨B.k,putAt B.cells off ((cB zs).map .int),B.st⟩) ids I) g1 rfl (λb1 V O J=>by
  have:=x b1 V O J;simp only[pl]at this;exact this) (λb1 V J=>qf (ids:=ids) (I:=I) Q (by show B.cells.length<=(putAt B.cells off ((cB zs).map .int)).length;rw[pl];exact bd _) b1 V J)
 have hml:(((cB zs).map (Value.int .i64)).length)=len:=by simp[U]
 obtain⟨W,r2⟩:=aaE (off:=off) (n:=n) (os:=os) (d' :=(cB zs).toArray) H ax
 simp only[List.toList_toArray]at W r2;have F:∀k,k<(w.setRow (ids b) (c.toList.take off++(cB zs).map (Value.int .i64)++c.toList.drop (off+((cB zs).map (Value.int .i64)).length)).toArray).heap.size->(Ey w (ids b) off n (cB zs).toArray os).heap[k]? = (w.setRow (ids b) (c.toList.take off++(cB zs).map (Value.int .i64)++c.toList.drop (off+((cB zs).map (Value.int .i64)).length)).toArray).heap[k]?:=λk G=>r2 k (by rwa [od]at G)
 obtain⟨q1,q2⟩:=f1.oT W F I (λ_ h=>h) (λk G=>ui (f1.I k G) W) (λk G=>.inl G) rfl ⟨rfl,by show w.drawn<=w.drawn+n;omega⟩ rfl
 exact⟨_,ids,I,rfl,q1,mY,(g2.trans f2).trans q2⟩
def aaG(L:Lays.n189 P ρ){f:Nat}(l:ρ.f 189=f) (m:cM P f=true):eS P f kz:=by
 subst l;refine⟨m,λce n o args F r p a ids I w G h i=>?_⟩;unfold kz at a;split at a
 .simp only[bT,Prod.mk.injEq]at a
  obtain⟨rfl,rfl⟩:=a;obtain⟨q,H,rfl,d,rfl⟩:=i;have d:q = .slice none 0 0:=d;subst d;refine(Any.slices_Sort_int_none L none 0 w).mono ?_;rintro e J ⟨rfl,rfl⟩;exact⟨_,ids,I,rfl,h,mY,Step.refl _ _⟩
 .rename_i b u off len
  split at a
  .rename_i B s
   split at a
   .rename_i j
    simp only[aH,eo]at j;obtain⟨⟨⟨⟨x,y⟩,z⟩,A⟩,C⟩:=j;have g:B.st = .live:=by revert x;cases B.st<;>simp[fb.isLive]
    have D:B.k=none:=by revert y;cases B.k<;>simp[hZ]
    split at a
    .rename_i K E
     simp only[bT,Prod.mk.injEq]at a;obtain⟨rfl,rfl⟩:=a;exact aaF L s g D z A C (FN E) h i
    .simp at a
   .simp at a
  .simp at a
 .simp at a
end Ab
