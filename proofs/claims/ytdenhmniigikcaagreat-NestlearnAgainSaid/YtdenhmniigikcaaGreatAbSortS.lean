/- slices.SortFunc, at structs that stand in their order already, turns nothing. Condition: the library's own text, as the kit's contract has walked it. -/
import Derived.Test.YtdenhmniigikcaaGreatAbC
import Derived.Test.YtdenhmniigikcaaGreatAbSortM
import Derived.Shelf.SlSortCmp.NoneTotal
set_option linter.all false
namespace Ab
open Go Go.Proofs Go.Shelf Go.Sort
variable{P:Program}
theorem ZT{W w' : World}(h1:W.heap.size<=w'.heap.size) (h2:∀k,k<W.heap.size->w'.heap[k]? = W.heap[k]?) (h3:w'.os=W.os) (h4:w'.tape=W.tape/\W.drawn<=w'.drawn) (h5:w'.output=W.output) :
  w' = grow (W.drewN (w'.drawn-W.drawn)) (w'.heap.extract W.heap.size w'.heap.size):=by
 obtain⟨H,t,d,o,u⟩:=W;obtain⟨H', t', d', o', u'⟩:=w';simp only at h1 h2 h3 h4 h5;obtain⟨rfl,h4⟩:=h4;subst h3;subst h5;simp only[grow,World.drewN,World.mk.injEq,true_and,and_true];refine⟨?_,by omega⟩
 apply Array.ext_getElem?;intro i
 by_cases hi:i<H.size
 ·rw[kS hi,h2 i hi]
 ·rw[ud (by omega),Array.getElem?_extract]
  by_cases dw : i<H'.size
  ·rw[ab (by omega),show H.size+(i-H.size)=i by omega]
  ·rw[aa (by omega),Array.getElem?_eq_none (by omega)]
section
variable{α:Type} [Inhabited α]{enc:α->List Value}{k:Nat}
theorem ZU{w:World}{id off m:Nat}{dk:Array α}{os:Array Obj}:(sortWorldK enc k w id off m dk os).heap.size=w.heap.size+os.size:=by
 simp[sortWorldK,putRowK,grow,putRow,mapBlock,«Sort».ahead]
theorem ZV{w:World}{id off m:Nat}{dk:Array α}{os:Array Obj}{j:Nat}(h:j<w.heap.size) (bY:j ≠ id):(sortWorldK enc k w id off m dk os).heap[j]? = w.heap[j]?:=by
 simp only[sortWorldK,putRowK,grow,putRow,mapBlock,«Sort».ahead];rw[kS (by simpa using h),su,aa (by omega)]
end
theorem ZW{ce:CE}(dM:cx P ce){g:Nat}{aI:List AV}{C:Ctx}{w:World}{cb:List Value}(hg:Good C w) (oh:cd C w.heap aI cb){id off len k:Nat}(Bt:¬C.I id)
  {av:Nat->AV} {enc:Nat->List Value} {cf:Nat->Nat->Int} (hv:∀i,VR C w.heap (av i) (.agg (enc i).toArray)) (hc:∀i j,iF ce g aI (av i) (av j)=some (cf i j)) :
  CmpLays P g cb.toArray enc k cf id off len w:=by
 intro m os dk hs x y;have h:=hc x y;unfold iF at h;have hp:iZ ce g (av x::av y::aI)=some (.int (cf x y)):=by
  split at h
  ·rename_i c fW; simp at h;subst h;exact fW
  ·simp at h
 have hn:ax (av x::av y::aI)=true:=by
  unfold iZ at hp;split at hp
  ·assumption
  ·simp at hp
 have dt:∀j,C.I j->(sortWorldK enc k w id off m dk os).heap[j]? = w.heap[j]?:=λj hj=>ZV (hg.I j hj) λe=>Bt (e▸hj);have xy : Good (af [] (λ_=>0) C.I) (sortWorldK enc k w id off m dk os):=
  ⟨λk hk=>by rw[ZU];have:=hg.I k hk;omega,λb u B i h=>by simp[af,ak]at h,λb u B i h=>by simp[af,ak]at h,λb u B i b' u' B' i' h=>by simp[af,ak]at h,λb u B i es h=>by simp[af,ak]at h⟩
 have tV:cd (af [] (λ_=>0) C.I) (sortWorldK enc k w id off m dk os).heap (av x::av y::aI) (.agg (enc x).toArray :: .agg (enc y).toArray::cb):=
  cd.free (show ow C w.heap (af [] (λ_=>0) C.I) (sortWorldK enc k w id off m dk os).heap from⟨λ_ h=>h,dt⟩) _ _ hn ⟨_,_,rfl,hv x,_,_,rfl,hv y,oh⟩
 have key:=xW dM hp xy tV;rw[show #[Value.agg (enc x).toArray,Value.agg (enc y).toArray]++cb.toArray=(Value.agg (enc x).toArray :: .agg (enc y).toArray::cb).toArray by simp]
 refine key.mono ?_;rintro e w' ⟨v,rfl,I', k1,k2,k3⟩;refine⟨by rw[k3.aY],_,_,ZT k2.size (λk hk=>k2.frame k hk nm) k2.os k2.tape k2.output⟩
theorem Nr{k:Nat}:∀(n:Nat) (cs:List AV),n*k<=cs.length->∀i,i<n->(chunk (some k) n cs)[i]? = some (.agg ((cs.drop (i*k)).take k))
 |0,_,_,i,hi=>by omega
 |n+1,cs,h,0,_=>by simp[chunk]
 |n+1,cs,h,i+1,hi=>by
  have h' : n*k<=(cs.drop k).length:=by simp;rw[fx]at h;omega
  have:=Nr n (cs.drop k) h' i (by omega)
  simp only[chunk,List.getElem?_cons_succ,this,List.drop_drop]
  congr 4
  rw[fx];omega
theorem Ns{k:Nat}:∀(n:Nat) (cs:List AV),(chunk (some k) n cs).length=n
 |0,_=>rfl
 |n+1,cs=>by simp[chunk,Ns n]
end Ab
