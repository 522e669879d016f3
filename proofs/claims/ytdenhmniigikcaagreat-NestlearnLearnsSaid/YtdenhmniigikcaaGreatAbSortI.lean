/- slices.Sort of numbers does what the small language says. Condition: the library's own text, as the kit's contract has walked it. -/
import Derived.Test.YtdenhmniigikcaaGreatAbC
import Derived.Test.YtdenhmniigikcaaGreatAbSortM
import Derived.Shelf.Sort.Plain
import Derived.Shelf.Slices.In.SortNone
set_option linter.all false
open Option renaming some->aa,none->ab
open Bool renaming true->ad
open List renaming length->ah
namespace Ab
open Go Go.Proofs Go.Shelf Go.Sort
variable{P:Program}
def GG (w:World) (id off n:Nat) (d:Array Int) (os:Array Obj):World:=grow (putRow (Value.int .i64) (Sort.ahead w n) id off d) os
variable{w:World}{id off m:Nat}{dk:Array Int}{os:Array Obj}
def ach:(GG w id off m dk os).heap.size=w.heap.size+os.size:=by
 simp[GG,grow,putRow,mapBlock,«Sort».ahead]
def aci{k:Nat}(h:k<w.heap.size) (a:k ≠ id):(GG w id off m dk os).heap[k]? = w.heap[k]?:=by
 simp only[GG,grow,putRow,mapBlock,«Sort».ahead];rw[mm du,ug,aC ax]
def acj{n:Nat}{d' : Array Int}{c:Array Value}{el:TypeId}(d:w.heap[id]? = aa (.cells c el (0,0))) (g:off+d'.size<=c.size) :
  (w.setRow id (c.toList.take off++d'.toList.map (Value.int .i64)++c.toList.drop (off+ah (d'.toList.map (Value.int .i64)))).toArray).heap.size<=(GG w id off n d' os).heap.size/\
  ∀k,k<w.heap.size->(GG w id off n d' os).heap[k]? = (w.setRow id (c.toList.take off++d'.toList.map (Value.int .i64)++c.toList.drop (off+ah (d'.toList.map (Value.int .i64)))).toArray).heap[k]?:=by
 refine⟨by rw[py,ach];omega,λk h=>?_⟩
 by_cases e:k=id
 .subst e
  rw[setRow_heap w k c _ el (0,0) d];simp only[GG,grow,putRow,mapBlock,«Sort».ahead];rw[mm du,ug,aD rfl,d]
  simp only[nh,onCells,ct,mw,and_true];apply Array.ext_getElem?;intro i;have a:∀L:List Value,L.toArray[i]? = L[i]?:=λL=>aA
  rw[a (c.toList.take off++d'.toList.map (Value.int .i64)++c.toList.drop (off+ah (d'.toList.map (Value.int .i64))))];simp only[putCells,Array.getElem?_mapIdx,db,pB]
  by_cases j:i<off
  .rw[jg,dq aT,wh,aD j,jS]
   cases l:c[i]? with
   |none=>rfl
   |some v=>simp;omega
  .by_cases m:i<off+d'.size
   .rw[dq aT,dW aT,gP]
    have b:i<c.size:=ax
    rw[mu b];simp only[pA,pB,nh];rw[aD ax,show min off c.size=off by omega,jS,mu ax]
    simp[getElem!_def,mu (show i-off<d'.size by omega)]
   .rw[dW aT,oB,jS]
    simp only[bM,pA,pB,db];rw[show off+d'.size+(i-(min off c.size+d'.size))=i by omega]
    cases l:c[i]? with
    |none=>rfl
    |some v=>simp;omega
 .rw[aci h e,kZ w id _ e]
variable{ρ:Ren}
def ack(L:Lays.n189 P ρ){b u len:Nat}{σ:aq}{B:aO}{zs:ak}(X:upto σ b u=aa B) (a:B.st = .live) (G:B.k=ab) (hlen:0<len) (Y:off+len<=ah B.cells) (K:ah B.cells<=eE)
  (Z:(B.cells.drop off).take len=zs.map .int) {ids:Nat->Nat} {I:Nat->Prop}  {vs:List Value} (hg:Good (aI σ ids I) w) (hv:cH (aI σ ids I) w.heap [.sl b u off len] vs) :
  Calls P (ρ.f 189) vs.toArray w λe w' =>∃v d I', e = .returned v/\Good (aI (aV σ b ⟨B.k,putAt B.cells off ((cY zs).map .int),B.st⟩) d I') w' /\VR (aI (aV σ b ⟨B.k,putAt B.cells off ((cY zs).map .int),B.st⟩) d I') w'.heap (.bY []) v/\
   Step (aI σ ids I) w (aI (aV σ b ⟨B.k,putAt B.cells off ((cY zs).map .int),B.st⟩) d I') w' :=by
 obtain⟨Q,R,S⟩:=uk X;have g:=pt ids I X;subst R;obtain⟨v1,s1,rfl,m,rfl⟩:=hv;unfold VR at m;have m:=m.2.2 B _ g;rw[a]at m;obtain⟨c,el,o,cap,H,O,M,Zi,vE⟩:=m;rw[M ax]at O
 obtain⟨Zq,c', Da, A, hle,r⟩:=hg.live b _ B _ g a;rw[H]at A;simp only[ct,mw]at A;obtain⟨rfl,rfl,_⟩:=A;have C:ah zs=len:=by
  have:=congrArg List.length Z;simp at this;omega
 have D:∀i,i<len->B.cells[off+i]? = (zs[i]?).map AV.int:=λi p=>by
  have:=congrArg (λl=>l[i]?) Z;simp only[wh,aD p,oB,gP]at this;exact this
 have hc:∀i z,zs[i]? = aa z->c[off+i]? = aa (Value.int .i64 z):=λi z hz=>by
  have p:i<len:=by rw[<-C];exact(dp.1 hz).1
  have J:=D i p;rw[hz]at J;obtain⟨y,k1,k2,k3⟩:=r _ _ J;rw[k1];have:y=Value.int .i64 z:=k2.bV;rw[this]
 have E:=(kV.1 H).1;have s:Holds (Value.int .i64) w (ids b) off zs.toArray:=λj T=>by
  simp only[List.size_toArray]at T;refine⟨?_,?_⟩
  .simp only[World.cell?,H]
   rw[getElem!_pos zs.toArray j (by simpa using T)]
   simpa using hc j zs[j] (dG T)
  .simp[World.frozen?,H]
 have key:=Any.slices_Sort_int L (ids b) off cap zs w s E (by simp[eE]at K ⊢;omega)
 rw[C]at key;rw[O];refine key.mono ?_;rintro e w' ⟨rfl,n,os,rfl⟩;rw[abC];have U:ah (cY zs)=len:=by rw[(yK zs).length_eq,C]
 obtain⟨g1,g2⟩:=yE (vals:=(cY zs).map (Value.int .i64)) (new:=(cY zs).map .int) (off:=off) hg g a (pC (u:=0) Q) H aT aA (λi q p=>by
  rw[gP]at p;cases hd:(cY zs)[i]? with
  |none=>rw[hd]at p;simp at p
  |some k=>
   rw[hd]at p;simp at p;subst p;exact⟨Value.int .i64 k,by rw[gP,hd];rfl,rfl,rfl⟩)
 obtain⟨pl,_⟩:=uj B.cells ((cY zs).map .int) off aT
 have x:=rC (ids:=ids) (I:=I) (id' :=ids b) (B' :=⟨B.k,putAt B.cells off ((cY zs).map .int),B.st⟩) Q S;have N:(λq=>if q=b then ids b else ids q)=ids:=lf
 rw[N]at x;obtain⟨f1,f2⟩:=Good.shrink (C2:=aI (aV σ b ⟨B.k,putAt B.cells off ((cY zs).map .int),B.st⟩) ids I) g1 rfl (λb1 V O J=>by
  have:=x b1 V O J;simp only[pl]at this;exact this) (λb1 V J=>rD (ids:=ids) (I:=I) Q (by show (ah B.cells)<=ah (putAt B.cells off ((cY zs).map .int));rw[pl];exact bG _) b1 V J)
 have hml:(ah ((cY zs).map (Value.int .i64)))=len:=by simp[U]
 obtain⟨W,r2⟩:=acj (off:=off) (n:=n) (os:=os) (d' :=(cY zs).toArray) H aT
 simp only[List.toList_toArray]at W r2;have F:∀k,k<(w.setRow (ids b) (c.toList.take off++(cY zs).map (Value.int .i64)++c.toList.drop (off+ah ((cY zs).map (Value.int .i64)))).toArray).heap.size->(GG w (ids b) off n (cY zs).toArray os).heap[k]? = (w.setRow (ids b) (c.toList.take off++(cY zs).map (Value.int .i64)++c.toList.drop (off+ah ((cY zs).map (Value.int .i64)))).toArray).heap[k]?:=λk G=>r2 k (by rwa [py]at G)
 obtain⟨q1,q2⟩:=f1.qh W F I (λ_ h=>h) (λk G=>Nat.lt_of_lt_of_le (f1.I k G) W) (λk G=>.inl G) rfl ⟨rfl,by show w.drawn<=w.drawn+n;omega⟩ rfl
 exact⟨_,ids,I,rfl,q1,oH,(g2.trans f2).trans q2⟩
def acm(L:Lays.n189 P ρ){f:Nat}(l:ρ.f 189=f) (m:dm P f=ad):fH P f lu:=by
 subst l;refine⟨m,λce n o args F r p a ids I w G h i=>?_⟩;unfold lu at a;split at a
 .simp only[ct,Prod.mk.injEq]at a
  obtain⟨rfl,rfl⟩:=a;obtain⟨q,H,rfl,d,rfl⟩:=i;have d:q = .slice ab 0 0:=d;subst d;refine(Any.slices_Sort_int_none L ab 0 w).mono ?_;rintro e J ⟨rfl,rfl⟩;exact⟨_,ids,I,rfl,h,oH,Step.refl _ _⟩
 .rename_i b u off len
  split at a
  .rename_i B s
   split at a
   .rename_i j
    simp only[bd,fy]at j;obtain⟨⟨⟨⟨x,y⟩,z⟩,A⟩,C⟩:=j;have g:B.st = .live:=by revert x;cases B.st<;>simp[fR.isLive]
    have D:B.k=ab:=by revert y;cases B.k<;>simp[iS]
    split at a
    .rename_i K E
     simp only[ct,Prod.mk.injEq]at a;obtain⟨rfl,rfl⟩:=a;exact ack L s g D z A C (HY E) h i
    .simp at a
   .simp at a
  .simp at a
 .simp at a
end Ab
