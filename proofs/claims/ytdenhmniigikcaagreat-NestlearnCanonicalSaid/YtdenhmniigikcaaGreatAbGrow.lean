/- slices.Grow of a nil slice of numbers does what the small language says. Condition: the library's own text, as the kit's contract has walked it. -/
import Derived.Test.YtdenhmniigikcaaGreatAbC
import Derived.Test.YtdenhmniigikcaaGreatAbSortM
import Derived.Shelf.Spec.SlicesGrow
set_option linter.all false
namespace Ab
open Go Go.Proofs Go.Shelf
variable{P:Program}
def w5 (P:Program) (t:TypeId):Bool:=match P.info? t with
 |some i=>(match i.zero with
  |some (.int .i64 0)=>true
  |_=>false)&&i.size==1&&decide (i.bytes<=8)
 |none=>false
theorem WR{ρ:Ren}(L:Lays8.n4 P ρ){f:Nat}(T:ρ.f 4=f) (U:cz P f=true) (F:w5 P (ρ.t 25)=true):et P f mA:=by
 subst T;obtain⟨j,H,J,V,K⟩:∃j,P.info? (ρ.t 25)=some j/\j.zero=some (.int .i64 0)/\j.size=1/\j.bytes<=8:=by
  unfold w5 at F;cases y:P.info? (ρ.t 25)with
  |none=>simp[y]at F
  |some i=>
   simp only[y,aA,cF,dY]at F;obtain⟨⟨M,W⟩,X⟩:=F;refine⟨i,rfl,?_,W,X⟩;split at M
   .assumption
   .simp at M
 refine⟨U,λce Y Z args σ r cG d ids I w vs z hv=>?_⟩;unfold mA at d;split at d
 .rename_i n
  obtain⟨v1,s1,rfl,o,v2,s2,rfl,p,rfl⟩:=hv;have o:v1 = .slice none 0 0:=o;have p:v2 = .int .i64 n:=p;subst o;subst p;split at d
  .rename_i N
   simp only[cF]at N;subst N;simp only[bJ,Prod.mk.injEq]at d;obtain⟨rfl,rfl⟩:=d;refine(Any8.slices_Grow_room L none 0 0 0 w (aT _) (by omega) (by omega) (aT _)).mono ?_
   rintro e w' ⟨rfl,rfl⟩;exact⟨_,ids,I,rfl,z,rfl,Step.refl _ _⟩
  .rename_i N
   split at d
   .rename_i hc
    obtain⟨c1,c2⟩:=hc;simp only[bJ,Prod.mk.injEq]at d;obtain⟨rfl,rfl⟩:=d;obtain⟨m,rfl⟩:∃m:Nat,n=m:=⟨n.toNat,by omega⟩
    simp only[je];have hm:m<=1073741824:=by simp[dz]at c2;omega
    have g:(0+m)*j.bytes<=140737488355328:=by
     have:(0+m)*j.bytes<=1073741824*8:=oP (by omega) K
     omega
    have key:=Any8.slices_Grow_grow L j (.int .i64 0) H J (by omega) none 0 0 m [] w (aT _) (by omega) g (by omega) (by simp) (λ_=>rfl) (λa h=>by simp at h)
    refine key.mono ?_;rintro e w' ⟨rfl,rfl⟩;have O:=grownCap_ge w (0+m) 0 (ρ.t 25);generalize grownCap w (0+m) 0 (ρ.t 25)=cap at O ⊢;have s:(Value.int .i64 0).cells = #[.int .i64 0]:=rfl;generalize A:([].toArray++Builtin.zeroCells (Value.int .i64 0).cells (0+m-0)++Builtin.zeroCells (Value.int .i64 0).cells (cap-(0+m)))=G;have Q:G.size=cap:=by rw[<-A];simp[Builtin.zeroCells,s];omega
    have l:∀(k i:Nat),i<k->(Builtin.zeroCells (Value.int .i64 0).cells k)[i]? = some (.int .i64 0):=λk i y=>by
     simp[Builtin.zeroCells,s,y,Nat.mod_one]
    have u:∀k,(Builtin.zeroCells (Value.int .i64 0).cells k).size=k:=λk=>by simp[Builtin.zeroCells,s]
    have C:∀i,i<cap->G[i]? = some (.int .i64 0):=λi y=>by
     rw[<-A]
     by_cases M:i<m
     .rw[kq (by simp[u];omega),sN (by simp)]
      exact l _ _ (by simp;omega)
     .rw[sN (by simp[u];omega)]
      refine l _ _ (by simp[u];omega)
    have R:Good (ad σ ids I) w.drew:=⟨z.I,z.kN,z.live,z.apart,z.maps⟩;have D:Step (ad σ ids I) w (ad σ ids I) w.drew:=Step.heap rfl rfl ⟨rfl,Nat.le_succ _⟩ rfl;obtain⟨k1,k2⟩:=zz R (b:=σ.length) ⟨none,List.replicate m (.int 0),.live⟩ (uP _) G (ρ.t 25) rfl (by simp;omega) (λi x E=>by
     simp only[List.getElem?_replicate]at E;split at E
     .rename_i y
      simp at E;subst E;exact⟨_,C i (by omega),rfl,rfl⟩
     .simp at E)
    obtain⟨f1,S⟩:=Good.shrink (C2:=ad (σ ++ [⟨none,List.replicate m (.int 0),.live⟩]) (λq=>if q=σ.length then w.drew.heap.size else ids q) I) k1 rfl (zO (by simp)) zP
    refine⟨_,_,I,rfl,f1,?_,D.trans (k2.trans S)⟩;refine VR.mono S.ev _ _ ?_;have hl:(List.replicate m (AV.int 0)).length=m:=by simp
    refine uJ (B:=⟨none,List.replicate m (.int 0),.live⟩) (id:=w.drew.heap.size) (c:=G) (el:=ρ.t 25) (by simp[ao]) (.inl ⟨rfl,hl.symm⟩) rfl (nm _ _) (Nat.zero_le _) (by simp[aE,Q])
   .simp at d
 .simp at d
end Ab
