/- slices.Sort of numbers does what the small language says. Condition: the library's own text, as the kit's contract has walked it. -/
import Derived.Test.YtcdccenbhiddcaaGreatAbC
import Derived.Test.YtcdccenbhiddcaaGreatAbSortM
import Derived.Shelf.Sort.Plain
import Derived.Shelf.Slices.In.SortNone
set_option linter.all false
namespace Ab
open Go Go.Proofs Go.Shelf Go.Sort
variable{P:Program}
def vP (w:World) (id off n:Nat) (d:Array Int) (os:Array Obj):World:=grow (putRow (Value.int .i64) (Sort.ahead w n) id off d) os
variable{w:World}{id off m:Nat}{dk:Array Int}{os:Array Obj}
def Ni:(vP w id off m dk os).heap.size=w.heap.size+os.size:=by
 simp[vP,grow,putRow,mapBlock,«Sort».ahead]
def Nj{k:Nat}(h:k<w.heap.size) (a:k ≠ id):(vP w id off m dk os).heap[k]? = w.heap[k]?:=by
 simp only[vP,grow,putRow,mapBlock,«Sort».ahead];rw[kL ch,Array.getElem?_modify,ae aa]
def Nk{n:Nat}{d' : Array Int}{c:Array Value}{el:TypeId}(d:w.heap[id]? = some (.cells c el (0,0))) (f:off+d'.size<=c.size) :
  (w.setRow id (c.toList.take off++d'.toList.map (Value.int .i64)++c.toList.drop (off+(d'.toList.map (Value.int .i64)).length)).toArray).heap.size<=(vP w id off n d' os).heap.size/\
  ∀k,k<w.heap.size->(vP w id off n d' os).heap[k]? = (w.setRow id (c.toList.take off++d'.toList.map (Value.int .i64)++c.toList.drop (off+(d'.toList.map (Value.int .i64)).length)).toArray).heap[k]?:=by
 refine⟨by rw[kK,Ni];omega,λk g=>?_⟩
 by_cases e:k=id
 .subst e
  rw[setRow_heap w k c _ el (0,0) d];simp only[vP,grow,putRow,mapBlock,«Sort».ahead];rw[kL eT,Array.getElem?_modify,ah rfl,d]
  simp only[Option.map_some,onCells,aS,jh,and_true];apply Array.ext_getElem?;intro i;have a:∀L:List Value,L.toArray[i]? = L[i]?:=λL=>ab
  rw[a (c.toList.take off++d'.toList.map (Value.int .i64)++c.toList.drop (off+(d'.toList.map (Value.int .i64)).length))];simp only[putCells,Array.getElem?_mapIdx,cP,mJ]
  by_cases h:i<off
  .rw[fO,dG ai,List.getElem?_take,ah h,gQ]
   cases j:c[i]? with
   |none=>rfl
   |some v=>simp;omega
  .by_cases l:i<off+d'.size
   .rw[dG ai,fk ai,eQ]
    have b:i<c.size:=aa
    rw[iv b];simp only[ji,mJ,Option.map_some];rw[ah aa,show min off c.size=off by omega,gQ,iv aa]
    simp[getElem!_def,iv (show i-off<d'.size by omega)]
   .rw[fk ai,jO,gQ]
    simp only[ez,ji,mJ,cP];rw[show off+d'.size+(i-(min off c.size+d'.size))=i by omega]
    cases j:c[i]? with
    |none=>rfl
    |some v=>simp;omega
 .rw[Nj g e,gr w id _ e]
variable{ρ:Ren}
def Nl(L:Lays.n189 P ρ){b u len:Nat}{σ:List aj}{B:aj}{zs:List Int}(Y:upto σ b u=some B) (a:B.st = .live) (G:B.k=none) (hlen:0<len) (Z:off+len<=B.cells.length) (K:B.cells.length<=cE)
  (hD:(B.cells.drop off).take len=zs.map .int) {ids:Nat->Nat} {I:Nat->Prop}  {vs:List Value} (hg:Good (ad σ ids I) w) (hv:bm (ad σ ids I) w.heap [.sl b u off len] vs) :
  Calls P (ρ.f 189) vs.toArray w λe w' =>∃v d I', e = .returned v/\Good (ad (az σ b ⟨B.k,putAt B.cells off ((bl zs).map .int),B.st⟩) d I') w' /\VR (ad (az σ b ⟨B.k,putAt B.cells off ((bl zs).map .int),B.st⟩) d I') w'.heap (.bz []) v/\
   Step (ad σ ids I) w (ad (az σ b ⟨B.k,putAt B.cells off ((bl zs).map .int),B.st⟩) d I') w' :=by
 obtain⟨Q,R,S⟩:=oe Y;have g:=kc ids I Y;subst R;obtain⟨v1,s1,rfl,m,rfl⟩:=hv;unfold VR at m;have m:=m.2.2 B _ g;rw[a]at m;obtain⟨c,el,o,cap,H,O,M,hlc,oc⟩:=m;rw[M aa]at O
 obtain⟨Cl,c', wO, A, hle,r⟩:=hg.live b _ B _ g a;rw[H]at A;simp only[aS,jh]at A;obtain⟨rfl,rfl,_⟩:=A;have C:zs.length=len:=by
  have:=congrArg List.length hD;simp at this;omega
 have D:∀i,i<len->B.cells[off+i]? = (zs[i]?).map AV.int:=λi p=>by
  have:=congrArg (λl=>l[i]?) hD;simp only[List.getElem?_take,ah p,jO,eQ]at this;exact this
 have hc:∀i z,zs[i]? = some z->c[off+i]? = some (Value.int .i64 z):=λi z hz=>by
  have p:i<len:=by rw[<-C];exact(cM.1 hz).1
  have J:=D i p;rw[hz]at J;obtain⟨y,k1,k2,k3⟩:=r _ _ J;rw[k1];have:y=Value.int .i64 z:=k2.bo;rw[this]
 have E:=(eK.1 H).1;have s:Holds (Value.int .i64) w (ids b) off zs.toArray:=λj T=>by
  simp only[List.size_toArray]at T;refine⟨?_,?_⟩
  .simp only[World.cell?,H]
   rw[getElem!_pos zs.toArray j (by simpa using T)]
   simpa using hc j zs[j] (cG T)
  .simp[World.frozen?,H]
 have key:=Any.slices_Sort_int L (ids b) off cap zs w s E (by simp[cE]at K ⊢;omega)
 rw[C]at key;rw[O];refine key.mono ?_;rintro e w' ⟨rfl,n,os,rfl⟩;rw[MB];have U:(bl zs).length=len:=by rw[(kS zs).length_eq,C]
 obtain⟨g1,g2⟩:=qY (vals:=(bl zs).map (Value.int .i64)) (new:=(bl zs).map .int) (off:=off) hg g a (lT (u:=0) Q) H ai ab (λi q p=>by
  rw[eQ]at p;cases V:(bl zs)[i]? with
  |none=>rw[V]at p;simp at p
  |some k=>
   rw[V]at p;simp at p;subst p;exact⟨Value.int .i64 k,by rw[eQ,V];rfl,rfl,rfl⟩)
 obtain⟨pl,_⟩:=od B.cells ((bl zs).map .int) off ai
 have x:=mL (ids:=ids) (I:=I) (id' :=ids b) (B' :=⟨B.k,putAt B.cells off ((bl zs).map .int),B.st⟩) Q S;have N:(λq=>if q=b then ids b else ids q)=ids:=jj
 rw[N]at x;obtain⟨f1,f2⟩:=Good.shrink (C2:=ad (az σ b ⟨B.k,putAt B.cells off ((bl zs).map .int),B.st⟩) ids I) g1 rfl (λb1 W O J=>by
  have:=x b1 W O J;simp only[pl]at this;exact this) (λb1 W J=>mM (ids:=ids) (I:=I) Q (by show B.cells.length<=(putAt B.cells off ((bl zs).map .int)).length;rw[pl];exact aY _) b1 W J)
 have vQ:(((bl zs).map (Value.int .i64)).length)=len:=by simp[U]
 obtain⟨X,r2⟩:=Nk (off:=off) (n:=n) (os:=os) (d' :=(bl zs).toArray) H ai
 simp only[List.toList_toArray]at X r2;have F:∀k,k<(w.setRow (ids b) (c.toList.take off++(bl zs).map (Value.int .i64)++c.toList.drop (off+((bl zs).map (Value.int .i64)).length)).toArray).heap.size->(vP w (ids b) off n (bl zs).toArray os).heap[k]? = (w.setRow (ids b) (c.toList.take off++(bl zs).map (Value.int .i64)++c.toList.drop (off+((bl zs).map (Value.int .i64)).length)).toArray).heap[k]?:=λk G=>r2 k (by rwa [kK]at G)
 obtain⟨q1,q2⟩:=f1.lD X F I (λ_ h=>h) (λk G=>Nat.lt_of_lt_of_le (f1.I k G) X) (λk G=>.inl G) rfl ⟨rfl,by show w.drawn<=w.drawn+n;omega⟩ rfl
 exact⟨_,ids,I,rfl,q1,l4,(g2.trans f2).trans q2⟩
def Nn(L:Lays.n189 P ρ){f:Nat}(l:ρ.f 189=f) (m:bU P f=true):dc P f gd:=by
 subst l;refine⟨m,λce n o args F r p a ids I w G h i=>?_⟩;unfold gd at a;split at a
 .simp only[aS,Prod.mk.injEq]at a
  obtain⟨rfl,rfl⟩:=a;obtain⟨q,H,rfl,d,rfl⟩:=i;have d:q = .slice none 0 0:=d;subst d;refine(Any.slices_Sort_int_none L none 0 w).mono ?_;rintro e J ⟨rfl,rfl⟩;exact⟨_,ids,I,rfl,h,l4,Step.refl _ _⟩
 .rename_i b u off len
  split at a
  .rename_i B s
   split at a
   .rename_i j
    simp only[aD,cO]at j;obtain⟨⟨⟨⟨x,y⟩,z⟩,A⟩,C⟩:=j;have g:B.st = .live:=by revert x;cases B.st<;>simp[c6.isLive]
    have D:B.k=none:=by revert y;cases B.k<;>simp[dV]
    split at a
    .rename_i K E
     simp only[aS,Prod.mk.injEq]at a;obtain⟨rfl,rfl⟩:=a;exact Nl L s g D z A C (xe E) h i
    .simp at a
   .simp at a
  .simp at a
 .simp at a
end Ab
