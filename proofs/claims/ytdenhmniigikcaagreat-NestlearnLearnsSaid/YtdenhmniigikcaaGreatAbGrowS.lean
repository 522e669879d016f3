/- slices.Grow of a nil slice of slices does what the small language says. Condition: the library's own text, as the kit's contract has walked it. -/
import Derived.Test.YtdenhmniigikcaaGreatAbC
import Derived.Test.YtdenhmniigikcaaGreatAbGrow
import Derived.Shelf.Spec.SlicesGrow
set_option linter.all false
open Option renaming some->aa,none->ab
open Bool renaming true->ad,false->ae
open List renaming replicate->ag,length->ah
open Int renaming toNat->aj
namespace Ab
open Go Go.Proofs Go.Shelf
variable{P:Program}
def xH (P:Program) (t:TypeId):Bool:=match P.info? t with
 |some i=>(match i.zero with
  |some (.slice ab 0 0)=>ad
  |_=>ae)&&i.size==1&&decide (i.bytes<=24)
 |none=>ae
def abI{ρ:Ren}(L:Lays8.n4 P ρ){f:Nat}(U:ρ.f 4=f) (V:dm P f=ad) (G:xH P (ρ.t 25)=ad):fH P f ll:=by
 subst U;obtain⟨j,J,K,W,M⟩:∃j,P.info? (ρ.t 25)=aa j/\j.zero=aa (.slice ab 0 0)/\j.size=1/\j.bytes<=24:=by
  unfold xH at G;cases y:P.info? (ρ.t 25)with
  |none=>simp[y]at G
  |some i=>
   simp only[y,bd,dA,fy]at G;obtain⟨⟨N,X⟩,Y⟩:=G;refine⟨i,rfl,?_,X,Y⟩;split at N
   .assumption
   .simp at N
 refine⟨V,λce Z Ag args z r dC d ids I w vs A hv=>?_⟩;unfold ll at d;split at d
 .rename_i n
  obtain⟨v1,s1,rfl,o,v2,s2,rfl,p,rfl⟩:=hv;have o:v1 = .slice ab 0 0:=o;have p:v2 = .int .i64 n:=p;subst o;subst p;split at d
  .rename_i O
   simp only[dA]at O;subst O;simp only[ct,Prod.mk.injEq]at d;obtain⟨rfl,rfl⟩:=d;refine(Any8.slices_Grow_room L ab 0 0 0 w (bG _) ax ax (bG _)).mono ?_
   rintro e w' ⟨rfl,rfl⟩;exact⟨_,ids,I,rfl,A,rfl,Step.refl _ _⟩
  .rename_i O
   split at d
   .rename_i hc
    obtain⟨c1,c2⟩:=hc;simp only[ct,Prod.mk.injEq]at d;obtain⟨rfl,rfl⟩:=d;obtain⟨m,rfl⟩:∃m:Nat,n=m:=⟨aj n,ax⟩
    simp only[jT];have hm:m<=1073741824:=by simp[eE]at c2;omega
    have g:(0+m)*j.bytes<=140737488355328:=by
     have:(0+m)*j.bytes<=1073741824*24:=kH ax M
     omega
    have key:=Any8.slices_Grow_grow L j (.slice ab 0 0) J K ax ab 0 0 m [] w (bG _) ax g ax aA (λ_=>rfl) (λa h=>fE)
    refine key.mono ?_;rintro e w' ⟨rfl,rfl⟩;have Q:=grownCap_ge w (0+m) 0 (ρ.t 25);generalize grownCap w (0+m) 0 (ρ.t 25)=cap at Q ⊢;have s:(Value.slice ab 0 0).cells = #[.slice ab 0 0]:=rfl;generalize C:([].toArray++Builtin.zeroCells (Value.slice ab 0 0).cells (0+m-0)++Builtin.zeroCells (Value.slice ab 0 0).cells (cap-(0+m)))=H;have R:H.size=cap:=by rw[<-C];simp[Builtin.zeroCells,s];omega
    have l:∀(k i:Nat),i<k->(Builtin.zeroCells (Value.slice ab 0 0).cells k)[i]? = aa (.slice ab 0 0):=λk i y=>by
     simp[Builtin.zeroCells,s,y,Nat.mod_one]
    have u:∀k,(Builtin.zeroCells (Value.slice ab 0 0).cells k).size=k:=λk=>by simp[Builtin.zeroCells,s]
    have D:∀i,i<cap->H[i]? = aa (.slice ab 0 0):=λi y=>by
     rw[<-C]
     by_cases N:i<m
     .rw[mm oG,vT aA]
      exact l _ _ aT
     .rw[vT oG]
      refine l _ _ oG
    have S:Good (aI z ids I) w.drew:=⟨A.I,A.mT,A.live,A.apart,A.maps⟩;have E:Step (aI z ids I) w (aI z ids I) w.drew:=Step.heap rfl rfl ⟨rfl,Nat.le_succ _⟩ rfl;obtain⟨k1,k2⟩:=DG S (b:=ah z) ⟨ab,ag m .aJ,.live⟩ (yG _) H (ρ.t 25) rfl aT (λi x F=>by
     simp only[List.getElem?_replicate]at F;split at F
     .rename_i y
      simp at F;subst F;exact⟨_,D i ax,rfl,rfl⟩
     .simp at F)
    obtain⟨f1,T⟩:=Good.shrink (C2:=aI (z ++ [⟨ab,ag m .aJ,.live⟩]) (λq=>if q=ah z then w.drew.heap.size else ids q) I) k1 rfl (DV aA) DW
    refine⟨_,_,I,rfl,f1,?_,E.trans (k2.trans T)⟩;refine VR.mono T.ev _ _ ?_;have hl:ah (ag m AV.aJ)=m:=aA
    refine yu (B:=⟨ab,ag m .aJ,.live⟩) (id:=w.drew.heap.size) (c:=H) (el:=ρ.t 25) (by simp[aU]) (.inl ⟨rfl,hl.symm⟩) rfl (qf _ _) (Nat.zero_le _) (by simp[ba,R])
   .simp at d
 .simp at d
end Ab
