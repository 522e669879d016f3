/- slices.SortFunc, at structs that stand in their order already, turns nothing. Condition: the library's own text, as the kit's contract has walked it. -/
import Derived.Test.YtdenhmniigikcaaGreatAbC
import Derived.Test.YtdenhmniigikcaaGreatAbSortM
import Derived.Shelf.SlSortCmp.NoneTotal
set_option linter.all false
namespace Ab
open Go Go.Proofs Go.Shelf Go.Sort
variable{P:Program}
def aay{W w' : World}(j:W.heap.size<=w'.heap.size) (b:∀k,k<W.heap.size->w'.heap[k]? = W.heap[k]?) (e:w'.os=W.os) (a:w'.tape=W.tape/\W.drawn<=w'.drawn) (g:w'.output=W.output) :
  w' = grow (W.drewN (w'.drawn-W.drawn)) (w'.heap.extract W.heap.size w'.heap.size):=by
 obtain⟨H,t,d,o,u⟩:=W;obtain⟨l, n, p, q, r⟩:=w';simp only at j b e a g;obtain⟨rfl,a⟩:=a;subst e;subst g;simp only[grow,World.drewN,World.mk.injEq,true_and,and_true];refine⟨?_,aa⟩
 apply Array.ext_getElem?;intro i
 by_cases h:i<H.size
 .rw[lq h,b i h]
 .rw[um aa,Array.getElem?_extract]
  by_cases m : i<l.size
  .rw[ae aa,show H.size+(i-H.size)=i by omega]
  .rw[ad aa,Array.getElem?_eq_none aa]
section
variable{α:Type} [Inhabited α]{enc:α->List Value}{k:Nat}
variable{w:World}{id off m:Nat}{os:Array Obj}
theorem aaz{a:Array α}:(sortWorldK enc k w id off m a os).heap.size=w.heap.size+os.size:=by
 simp[sortWorldK,putRowK,grow,putRow,mapBlock,«Sort».ahead]
theorem aaA{a:Array α}{j:Nat}(h:j<w.heap.size) (b:j ≠ id):(sortWorldK enc k w id off m a os).heap[j]? = w.heap[j]?:=by
 simp only[sortWorldK,putRowK,grow,putRow,mapBlock,«Sort».ahead];rw[lq cq,sD,ad aa]
end
def aaB{ce:CE}(p:cw P ce){g:Nat}{a:List AV}{C:Ctx}{w:World}{cb:List Value}(E:Good C w) (q:cj C w.heap a cb){id off len k:Nat}(r:¬C.I id)
  {av:Nat->AV} {enc:Nat->List Value} {cf:Nat->Nat->Int} (F:∀i,VR C w.heap (av i) (.agg (enc i).toArray)) (H:∀i j,iM ce g a (av i) (av j)=some (cf i j)) :
  CmpLays P g cb.toArray enc k cf id off len w:=by
 intro m os n L x y;have h:=H x y;unfold iM at h;have o:jq ce g (av x::av y::a)=some (.int (cf x y)):=by
  split at h
  .rename_i c s; simp at h;subst h;exact s
  .simp at h
 have J:aC (av x::av y::a)=true:=by
  unfold jq at o;split at o
  .assumption
  .simp at o
 have d:∀j,C.I j->(sortWorldK enc k w id off m n os).heap[j]? = w.heap[j]?:=λj G=>aaA (E.I j G) λe=>r (e▸G);have z : Good (af [] (λ_=>0) C.I) (sortWorldK enc k w id off m n os):=
  ⟨λk A=>by rw[aaz];have:=E.I k A;omega,λb u B i h=>fV,λb u B i h=>fV,λb u B i M N O Q h=>fV,λb u B i es h=>fV⟩
 have D:cj (af [] (λ_=>0) C.I) (sortWorldK enc k w id off m n os).heap (av x::av y::a) (.agg (enc x).toArray :: .agg (enc y).toArray::cb):=
  cj.free (show oU C w.heap (af [] (λ_=>0) C.I) (sortWorldK enc k w id off m n os).heap from⟨λ_ h=>h,d⟩) _ _ J ⟨_,_,rfl,F x,_,_,rfl,F y,q⟩
 have key:=yn p o z D;rw[show #[Value.agg (enc x).toArray,Value.agg (enc y).toArray]++cb.toArray=(Value.agg (enc x).toArray :: .agg (enc y).toArray::cb).toArray by simp]
 refine key.mono ?_;rintro e R ⟨v,rfl,S, T,l,K⟩;refine⟨by rw[K.bt],_,_,aay l.size (λk A=>l.frame k A nW) l.os l.tape l.output⟩
def Ov{k:Nat}:∀(n:Nat) (cs:List AV),n*k<=cs.length->∀i,i<n->(chunk (some k) n cs)[i]? = some (.agg ((cs.drop (i*k)).take k))
 |0,_,_,i,a=>by omega
 |n+1,cs,h,0,_=>by simp[chunk]
 |n+1,cs,h,i+1,a=>by
  have b : n*k<=(cs.drop k).length:=by simp;rw[fh]at h;omega
  have:=Ov n (cs.drop k) b i aa
  simp only[chunk,List.getElem?_cons_succ,this,List.drop_drop]
  congr 4
  rw[fh];omega
def Ow{k:Nat}:∀(n:Nat) (cs:List AV),(chunk (some k) n cs).length=n
 |0,_=>rfl
 |n+1,cs=>by simp[chunk,Ow n]
end Ab
