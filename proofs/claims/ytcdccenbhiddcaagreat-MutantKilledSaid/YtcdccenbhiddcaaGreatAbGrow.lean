/- slices.Grow of a nil slice of numbers does what the small language says. Condition: the library's own text, as the kit's contract has walked it. -/
import Derived.Test.YtcdccenbhiddcaaGreatAbC
import Derived.Test.YtcdccenbhiddcaaGreatAbSortM
import Derived.Shelf.Spec.SlicesGrow
set_option linter.all false
namespace Ab
open Go Go.Proofs Go.Shelf
variable{P:Program}
def ri (P:Program) (t:TypeId):Bool:=match P.info? t with
 |some i=>(match i.zero with
  |some (.int .i64 0)=>true
  |_=>false)&&i.size==1&&decide (i.bytes<=8)
 |none=>false
def MD{ρ:Ren}(L:Lays8.n4 P ρ){f:Nat}(U:ρ.f 4=f) (V:bU P f=true) (G:ri P (ρ.t 25)=true):dc P f jK:=by
 subst U;obtain⟨j,J,K,W,M⟩:∃j,P.info? (ρ.t 25)=some j/\j.zero=some (.int .i64 0)/\j.size=1/\j.bytes<=8:=by
  unfold ri at G;cases y:P.info? (ρ.t 25)with
  |none=>simp[y]at G
  |some i=>
   simp only[y,aD,bJ,cO]at G;obtain⟨⟨N,X⟩,Y⟩:=G;refine⟨i,rfl,?_,X,Y⟩;split at N
   .assumption
   .simp at N
 refine⟨V,λce Z iD args z r σ' d ids I w vs A hv=>?_⟩;unfold jK at d;split at d
 .rename_i n
  obtain⟨v1,s1,rfl,o,v2,s2,rfl,p,rfl⟩:=hv;have o:v1 = .slice none 0 0:=o;have p:v2 = .int .i64 n:=p;subst o;subst p;split at d
  .rename_i O
   simp only[bJ]at O;subst O;simp only[aS,Prod.mk.injEq]at d;obtain⟨rfl,rfl⟩:=d;refine(Any8.slices_Grow_room L none 0 0 0 w (aY _) aa aa (aY _)).mono ?_
   rintro e w' ⟨rfl,rfl⟩;exact⟨_,ids,I,rfl,A,rfl,Step.refl _ _⟩
  .rename_i O
   split at d
   .rename_i hc
    obtain⟨c1,c2⟩:=hc;simp only[aS,Prod.mk.injEq]at d;obtain⟨rfl,rfl⟩:=d;obtain⟨m,rfl⟩:∃m:Nat,n=m:=⟨n.toNat,aa⟩
    simp only[kg];have hm:m<=1073741824:=by simp[cE]at c2;omega
    have g:(0+m)*j.bytes<=140737488355328:=by
     have:(0+m)*j.bytes<=1073741824*8:=jg aa M
     omega
    have key:=Any8.slices_Grow_grow L j (.int .i64 0) J K aa none 0 0 m [] w (aY _) aa g aa ab (λ_=>rfl) (λa h=>cy)
    refine key.mono ?_;rintro e w' ⟨rfl,rfl⟩;have Q:=grownCap_ge w (0+m) 0 (ρ.t 25);generalize grownCap w (0+m) 0 (ρ.t 25)=cap at Q ⊢;have s:(Value.int .i64 0).cells = #[.int .i64 0]:=rfl;generalize C:([].toArray++Builtin.zeroCells (Value.int .i64 0).cells (0+m-0)++Builtin.zeroCells (Value.int .i64 0).cells (cap-(0+m)))=H;have R:H.size=cap:=by rw[<-C];simp[Builtin.zeroCells,s];omega
    have l:∀(k i:Nat),i<k->(Builtin.zeroCells (Value.int .i64 0).cells k)[i]? = some (.int .i64 0):=λk i y=>by
     simp[Builtin.zeroCells,s,y,Nat.mod_one]
    have u:∀k,(Builtin.zeroCells (Value.int .i64 0).cells k).size=k:=λk=>by simp[Builtin.zeroCells,s]
    have D:∀i,i<cap->H[i]? = some (.int .i64 0):=λi y=>by
     rw[<-C]
     by_cases N:i<m
     .rw[kL (by simp[u];omega),Array.getElem?_append_right ab]
      exact l _ _ ai
     .rw[Array.getElem?_append_right (by simp[u];omega)]
      refine l _ _ (by simp[u];omega)
    have S:Good (ad z ids I) w.drew:=⟨A.I,A.ij,A.live,A.apart,A.maps⟩;have E:Step (ad z ids I) w (ad z ids I) w.drew:=Step.heap rfl rfl ⟨rfl,Nat.le_succ _⟩ rfl;obtain⟨k1,k2⟩:=wF S (b:=z.length) ⟨none,List.replicate m (.int 0),.live⟩ (q8 _) H (ρ.t 25) rfl ai (λi x F=>by
     simp only[List.getElem?_replicate]at F;split at F
     .rename_i y
      simp at F;subst F;exact⟨_,D i aa,rfl,rfl⟩
     .simp at F)
    obtain⟨f1,T⟩:=Good.shrink (C2:=ad (z ++ [⟨none,List.replicate m (.int 0),.live⟩]) (λq=>if q=z.length then w.drew.heap.size else ids q) I) k1 rfl (wT ab) wU
    refine⟨_,_,I,rfl,f1,?_,E.trans (k2.trans T)⟩;refine VR.mono T.ev _ _ ?_;have hl:(List.replicate m (AV.int 0)).length=m:=ab
    refine qS (B:=⟨none,List.replicate m (.int 0),.live⟩) (id:=w.drew.heap.size) (c:=H) (el:=ρ.t 25) (by simp[al]) (.inl ⟨rfl,hl.symm⟩) rfl (kI _ _) (Nat.zero_le _) (by simp[aC,R])
   .simp at d
 .simp at d
end Ab
