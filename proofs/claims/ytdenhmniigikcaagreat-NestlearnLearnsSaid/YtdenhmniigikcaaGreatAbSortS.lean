/- slices.SortFunc, at structs that stand in their order already, turns nothing. Condition: the library's own text, as the kit's contract has walked it. -/
import Derived.Test.YtdenhmniigikcaaGreatAbC
import Derived.Test.YtdenhmniigikcaaGreatAbSortM
import Derived.Shelf.SlSortCmp.NoneTotal
set_option linter.all false
open Option renaming some->aa
open Bool renaming true->ad
open List renaming length->ah
namespace Ab
open Go Go.Proofs Go.Shelf Go.Sort
variable{P:Program}
def acd{W w' : World}(j:W.heap.size<=w'.heap.size) (b:∀k,k<W.heap.size->w'.heap[k]? = W.heap[k]?) (e:w'.os=W.os) (a:w'.tape=W.tape/\W.drawn<=w'.drawn) (g:w'.output=W.output) :
  w' = grow (W.drewN (w'.drawn-W.drawn)) (w'.heap.extract W.heap.size w'.heap.size):=by
 obtain⟨H,t,d,o,u⟩:=W;obtain⟨l, n, p, q, r⟩:=w';simp only at j b e a g;obtain⟨rfl,a⟩:=a;subst e;subst g;simp only[grow,World.drewN,World.mk.injEq,true_and,and_true];refine⟨?_,ax⟩
 apply Array.ext_getElem?;intro i
 by_cases h:i<H.size
 .rw[mm h,b i h]
 .rw[vT ax,Array.getElem?_extract]
  by_cases m : i<l.size
  .rw[aD ax,show H.size+(i-H.size)=i by omega]
  .rw[aC ax,Array.getElem?_eq_none ax]
section
variable{α:Type} [Inhabited α]{enc:α->List Value}{k:Nat}
variable{w:World}{id off m:Nat}{os:Array Obj}
theorem ace{a:Array α}:(sortWorldK enc k w id off m a os).heap.size=w.heap.size+os.size:=by
 simp[sortWorldK,putRowK,grow,putRow,mapBlock,«Sort».ahead]
theorem acf{a:Array α}{j:Nat}(h:j<w.heap.size) (b:j ≠ id):(sortWorldK enc k w id off m a os).heap[j]? = w.heap[j]?:=by
 simp only[sortWorldK,putRowK,grow,putRow,mapBlock,«Sort».ahead];rw[mm du,ug,aC ax]
end
def acg{ce:CE}(p:cR P ce){g:Nat}{a:ao}{C:Ctx}{w:World}{cb:List Value}(E:Good C w) (q:cH C w.heap a cb){id off len k:Nat}(r:¬C.I id)
  {av:Nat->AV} {enc:Nat->List Value} {cf:Nat->Nat->Int} (F:∀i,VR C w.heap (av i) (.agg (enc i).toArray)) (H:∀i j,jF ce g a (av i) (av j)=aa (cf i j)) :
  CmpLays P g cb.toArray enc k cf id off len w:=by
 intro m os n L x y;have h:=H x y;unfold jF at h;have o:j7 ce g (av x::av y::a)=aa (.int (cf x y)):=by
  split at h
  .rename_i c s; simp at h;subst h;exact s
  .simp at h
 have J:aY (av x::av y::a)=ad:=by
  unfold j7 at o;split at o
  .assumption
  .simp at o
 have d:∀j,C.I j->(sortWorldK enc k w id off m n os).heap[j]? = w.heap[j]?:=λj G=>acf (E.I j G) λe=>r (e▸G);have z : Good (aI [] (λ_=>0) C.I) (sortWorldK enc k w id off m n os):=
  ⟨λk A=>by rw[ace];have:=E.I k A;omega,λb u B i h=>eS,λb u B i h=>eS,λb u B i M N O Q h=>eS,λb u B i es h=>eS⟩
 have D:cH (aI [] (λ_=>0) C.I) (sortWorldK enc k w id off m n os).heap (av x::av y::a) (.agg (enc x).toArray :: .agg (enc y).toArray::cb):=
  cH.free (show qi C w.heap (aI [] (λ_=>0) C.I) (sortWorldK enc k w id off m n os).heap from⟨λ_ h=>h,d⟩) _ _ J ⟨_,_,rfl,F x,_,_,rfl,F y,q⟩
 have key:=Aw p o z D;rw[show #[Value.agg (enc x).toArray,Value.agg (enc y).toArray]++cb.toArray=(Value.agg (enc x).toArray :: .agg (enc y).toArray::cb).toArray by simp]
 refine key.mono ?_;rintro e R ⟨v,rfl,S, T,l,K⟩;refine⟨by rw[K.bV],_,_,acd l.size (λk A=>l.frame k A pn) l.os l.tape l.output⟩
def P6{k:Nat}:∀(n:Nat) (cs:ao),n*k<=ah cs->∀i,i<n->(chunk (aa k) n cs)[i]? = aa (.agg ((cs.drop (i*k)).take k))
 |0,_,_,i,a=>by omega
 |n+1,cs,h,0,_=>by simp[chunk]
 |n+1,cs,h,i+1,a=>by
  have b : n*k<=ah (cs.drop k):=by simp;rw[fG]at h;omega
  have:=P6 n (cs.drop k) b i ax
  simp only[chunk,List.getElem?_cons_succ,this,List.drop_drop]
  congr 4
  rw[fG];omega
def P7{k:Nat}:∀(n:Nat) (cs:ao),ah (chunk (aa k) n cs)=n
 |0,_=>rfl
 |n+1,cs=>by simp[chunk,P7 n]
end Ab
