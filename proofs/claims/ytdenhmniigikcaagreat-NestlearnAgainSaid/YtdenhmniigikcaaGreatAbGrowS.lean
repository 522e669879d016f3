/- slices.Grow of a nil slice of slices does what the small language says. Condition: the library's own text, as the kit's contract has walked it. -/
import Derived.Test.YtdenhmniigikcaaGreatAbC
import Derived.Test.YtdenhmniigikcaaGreatAbGrow
import Derived.Shelf.Spec.SlicesGrow
set_option linter.all false
namespace Ab
open Go Go.Proofs Go.Shelf
variable{P:Program}
def vk (P:Program) (t:TypeId):Bool:=match P.info? t with
 |some i=>(match i.zero with
  |some (.slice none 0 0)=>true
  |_=>false)&&i.size==1&&decide (i.bytes<=24)
 |none=>false
theorem Zc{ρ:Ren}(L:Lays8.n4 P ρ){f:Nat}(hf:ρ.f 4=f) (hb:cJ P f=true) (hz:vk P (ρ.t 25)=true):eR P f j8:=by
 subst hf;obtain⟨i0,MN,Y9,oD,mi⟩:∃i0,P.info? (ρ.t 25)=some i0/\i0.zero=some (.slice none 0 0)/\i0.size=1/\i0.bytes<=24:=by
  unfold vk at hz;cases hi:P.info? (ρ.t 25)with
  |none=>simp[hi]at hz
  |some i=>
   simp only[hi,aD,cL,eP]at hz;obtain⟨⟨h1,h2⟩,h3⟩:=hz;refine⟨i,rfl,?_,h2,h3⟩;split at h1
   ·assumption
   ·simp at h1
 refine⟨hb,λce dM jw args σ r bp hp ids I w vs hg hv=>?_⟩;unfold j8 at hp;split at hp
 ·rename_i n
  obtain⟨v1,s1,rfl,dQ,v2,s2,rfl,nG,rfl⟩:=hv;have dQ:v1 = .slice none 0 0:=dQ;have nG:v2 = .int .i64 n:=nG;subst dQ;subst nG;split at hp
  ·rename_i h0
   simp only[cL]at h0;subst h0;simp only[bF,Prod.mk.injEq]at hp;obtain⟨rfl,rfl⟩:=hp;refine(Any8.slices_Grow_room L none 0 0 0 w (bw _) (by omega) (by omega) (bw _)).mono ?_
   rintro e w' ⟨rfl,rfl⟩;exact⟨_,ids,I,rfl,hg,rfl,Step.refl _ _⟩
  ·rename_i h0
   split at hp
   ·rename_i hc
    obtain⟨c1,c2⟩:=hc;simp only[bF,Prod.mk.injEq]at hp;obtain⟨rfl,rfl⟩:=hp;obtain⟨m,rfl⟩:∃m:Nat,n=m:=⟨n.toNat,by omega⟩
    simp only[kE];have hm:m<=1073741824:=by simp[dE]at c2;omega
    have um:(0+m)*i0.bytes<=140737488355328:=by
     have:(0+m)*i0.bytes<=1073741824*24:=Nat.mul_le_mul (by omega) mi
     omega
    have key:=Any8.slices_Grow_grow L i0 (.slice none 0 0) MN Y9 (by omega) none 0 0 m [] w (bw _) (by omega) um (by omega) (by simp) (λ_=>rfl) (λa h=>by simp at h)
    refine key.mono ?_;rintro e w' ⟨rfl,rfl⟩;have Za:=grownCap_ge w (0+m) 0 (ρ.t 25);generalize grownCap w (0+m) 0 (ρ.t 25)=cap at Za ⊢;have yr:(Value.slice none 0 0).cells = #[.slice none 0 0]:=rfl;generalize lI:([].toArray++Builtin.zeroCells (Value.slice none 0 0).cells (0+m-0)++Builtin.zeroCells (Value.slice none 0 0).cells (cap-(0+m)))=cc;have mh:cc.size=cap:=by rw[<-lI];simp[Builtin.zeroCells,yr];omega
    have fH:∀(k i:Nat),i<k->(Builtin.zeroCells (Value.slice none 0 0).cells k)[i]? = some (.slice none 0 0):=λk i hi=>by
     simp[Builtin.zeroCells,yr,hi,Nat.mod_one]
    have rX:∀k,(Builtin.zeroCells (Value.slice none 0 0).cells k).size=k:=λk=>by simp[Builtin.zeroCells,yr]
    have gC:∀i,i<cap->cc[i]? = some (.slice none 0 0):=λi hi=>by
     rw[<-lI]
     by_cases h1:i<m
     ·rw[kS (by simp[rX];omega),ud (by simp)]
      exact fH _ _ (by simp;omega)
     ·rw[ud (by simp[rX];omega)]
      refine fH _ _ (by simp[rX];omega)
    have LF:Good (af σ ids I) w.drew:=⟨hg.I,hg.kR,hg.live,hg.apart,hg.maps⟩;have ij:Step (af σ ids I) w (af σ ids I) w.drew:=Step.heap rfl rfl ⟨rfl,Nat.le_succ _⟩ rfl;obtain⟨k1,k2⟩:=Bc LF (b:=σ.length) ⟨none,List.replicate m .ah,.live⟩ (vZ _) cc (ρ.t 25) rfl (by simp;omega) (λi x hx=>by
     simp only[List.getElem?_replicate]at hx;split at hx
     ·rename_i hi
      simp at hx;subst hx;exact⟨_,gC i (by omega),rfl,rfl⟩
     ·simp at hx)
    obtain⟨f1,f2⟩:=Good.shrink (C2:=af (σ ++ [⟨none,List.replicate m .ah,.live⟩]) (λq=>if q=σ.length then w.drew.heap.size else ids q) I) k1 rfl (By (by simp)) Bz
    refine⟨_,_,I,rfl,f1,?_,ij.trans (k2.trans f2)⟩;refine VR.mono f2.ev _ _ ?_;have hl:(List.replicate m AV.ah).length=m:=by simp
    refine vT (B:=⟨none,List.replicate m .ah,.live⟩) (id:=w.drew.heap.size) (c:=cc) (el:=ρ.t 25) (by simp[ar]) (.inl ⟨rfl,hl.symm⟩) rfl (oq _ _) (Nat.zero_le _) (by simp[aC,mh])
   ·simp at hp
 ·simp at hp
end Ab
