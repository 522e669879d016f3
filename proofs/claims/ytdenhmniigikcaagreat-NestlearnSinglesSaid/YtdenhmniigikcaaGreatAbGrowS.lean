/- slices.Grow of a nil slice of slices does what the small language says. Condition: the library's own text, as the kit's contract has walked it. -/
import Derived.Test.YtdenhmniigikcaaGreatAbC
import Derived.Test.YtdenhmniigikcaaGreatAbGrow
import Derived.Shelf.Spec.SlicesGrow
set_option linter.all false
namespace Ab
open Go Go.Proofs Go.Shelf
variable{P:Program}
def vC (P:Program) (t:TypeId):Bool:=match P.info? t with
 |some i=>(match i.zero with
  |some (.slice none 0 0)=>true
  |_=>false)&&i.size==1&&decide (i.bytes<=24)
 |none=>false
def Z1{ρ:Ren}(L:Lays8.n4 P ρ){f:Nat}(U:ρ.f 4=f) (V:cM P f=true) (G:vC P (ρ.t 25)=true):eS P f kq:=by
 subst U;obtain⟨j,J,K,W,M⟩:∃j,P.info? (ρ.t 25)=some j/\j.zero=some (.slice none 0 0)/\j.size=1/\j.bytes<=24:=by
  unfold vC at G;cases y:P.info? (ρ.t 25)with
  |none=>simp[y]at G
  |some i=>
   simp only[y,aH,cT,eo]at G;obtain⟨⟨N,X⟩,Y⟩:=G;refine⟨i,rfl,?_,X,Y⟩;split at N
   .assumption
   .simp at N
 refine⟨V,λce Z xW args z r cR d ids I w vs A hv=>?_⟩;unfold kq at d;split at d
 .rename_i n
  obtain⟨v1,s1,rfl,o,v2,s2,rfl,p,rfl⟩:=hv;have o:v1 = .slice none 0 0:=o;have p:v2 = .int .i64 n:=p;subst o;subst p;split at d
  .rename_i O
   simp only[cT]at O;subst O;simp only[bT,Prod.mk.injEq]at d;obtain⟨rfl,rfl⟩:=d;refine(Any8.slices_Grow_room L none 0 0 0 w (bd _) aa aa (bd _)).mono ?_
   rintro e w' ⟨rfl,rfl⟩;exact⟨_,ids,I,rfl,A,rfl,Step.refl _ _⟩
  .rename_i O
   split at d
   .rename_i hc
    obtain⟨c1,c2⟩:=hc;simp only[bT,Prod.mk.injEq]at d;obtain⟨rfl,rfl⟩:=d;obtain⟨m,rfl⟩:∃m:Nat,n=m:=⟨n.toNat,aa⟩
    simp only[lA];have hm:m<=1073741824:=by simp[dK]at c2;omega
    have g:(0+m)*j.bytes<=140737488355328:=by
     have:(0+m)*j.bytes<=1073741824*24:=jT aa M
     omega
    have key:=Any8.slices_Grow_grow L j (.slice none 0 0) J K aa none 0 0 m [] w (bd _) aa g aa ab (λ_=>rfl) (λa h=>eX)
    refine key.mono ?_;rintro e w' ⟨rfl,rfl⟩;have Q:=grownCap_ge w (0+m) 0 (ρ.t 25);generalize grownCap w (0+m) 0 (ρ.t 25)=cap at Q ⊢;have s:(Value.slice none 0 0).cells = #[.slice none 0 0]:=rfl;generalize C:([].toArray++Builtin.zeroCells (Value.slice none 0 0).cells (0+m-0)++Builtin.zeroCells (Value.slice none 0 0).cells (cap-(0+m)))=H;have R:H.size=cap:=by rw[<-C];simp[Builtin.zeroCells,s];omega
    have l:∀(k i:Nat),i<k->(Builtin.zeroCells (Value.slice none 0 0).cells k)[i]? = some (.slice none 0 0):=λk i y=>by
     simp[Builtin.zeroCells,s,y,Nat.mod_one]
    have u:∀k,(Builtin.zeroCells (Value.slice none 0 0).cells k).size=k:=λk=>by simp[Builtin.zeroCells,s]
    have D:∀i,i<cap->H[i]? = some (.slice none 0 0):=λi y=>by
     rw[<-C]
     by_cases N:i<m
     .rw[lq mX,um ab]
      exact l _ _ ax
     .rw[um mX]
      refine l _ _ mX
    have S:Good (af z ids I) w.drew:=⟨A.I,A.lV,A.live,A.apart,A.maps⟩;have E:Step (af z ids I) w (af z ids I) w.drew:=Step.heap rfl rfl ⟨rfl,Nat.le_succ _⟩ rfl;obtain⟨k1,k2⟩:=Bg S (b:=z.length) ⟨none,List.replicate m .ag,.live⟩ (wC _) H (ρ.t 25) rfl ax (λi x F=>by
     simp only[List.getElem?_replicate]at F;split at F
     .rename_i y
      simp at F;subst F;exact⟨_,D i aa,rfl,rfl⟩
     .simp at F)
    obtain⟨f1,T⟩:=Good.shrink (C2:=af (z ++ [⟨none,List.replicate m .ag,.live⟩]) (λq=>if q=z.length then w.drew.heap.size else ids q) I) k1 rfl (Bx ab) By
    refine⟨_,_,I,rfl,f1,?_,E.trans (k2.trans T)⟩;refine VR.mono T.ev _ _ ?_;have hl:(List.replicate m AV.ag).length=m:=ab
    refine wi (B:=⟨none,List.replicate m .ag,.live⟩) (id:=w.drew.heap.size) (c:=H) (el:=ρ.t 25) (by simp[ay]) (.inl ⟨rfl,hl.symm⟩) rfl (oS _ _) (Nat.zero_le _) (by simp[aM,R])
   .simp at d
 .simp at d
end Ab
