/- A copy of a slice (the library's slices.Clone), known by what it answers, though it asks whether its argument is nil. Condition: the function's small text. slices.Clone at lists of lists: the copy is a new block. Condition: the function's small text. Condition: none. -/
import Derived.Test.YtdenhmniigikcaaGreatAbC
import Derived.Test.YtdenhmniigikcaaGreatAbL
import Derived.Test.YtdenhmniigikcaaGreatAbSortM
set_option linter.all false
namespace Ab
open Go
variable{P:Program}
def dx (t:Nat):Fn:={np:=1,nv:=2,res:=[(1,none)],body:=
 (.seq (.ae ⟨[⟨.mv (.c (.ah)),none,false⟩],[],[1],none⟩)
  (.seq (.seq (.ae ⟨[⟨.mv (.v 0),none,false⟩,⟨.nK false (.t 0),none,false⟩],[],[],some (t,0)⟩)
  (.cond t (.seq (.ae ⟨[⟨.mv (.c (.ah)),none,false⟩],[(1,0)],[0],none⟩) .ret) .skip))
  (.seq (.ae ⟨[⟨.dI [] 1,none,false⟩,⟨.mv (.v 0),none,false⟩,⟨.dm (.t 1) (.t 0) none,none,false⟩,⟨.mv (.t 0),none,false⟩],[(1,0)],[0],none⟩) .ret)))}
theorem agl{l:List AV}(h:l.all isScalar=true):l.flatMap AV.cells=l:=by
 induction l with
 |nil=>rfl
 |cons x r ih=>
  simp only[List.all_cons,aD]at h;rw[jD,ih h.2];cases x<;>simp_all [isScalar,AV.cells]
theorem agm{l:List AV}(h:l.all isScalar=true):fitAll 1 l=true:=by
 induction l with
 |nil=>rfl
 |cons x r ih=>
  simp only[List.all_cons,aD]at h;simp only[fitAll,ih h.2,Bool.and_true];cases x<;>simp_all [isScalar,AV.cells,bz]
end Ab
namespace Ab
open Go
variable{P:Program}
theorem agn{l:List AV}(h:l.all qE=true):(l.map fR).flatMap AV.cells=l.map fR/\fitAll 1 (l.map fR)=true:=by
 induction l with
 |nil=>exact⟨rfl,rfl⟩
 |cons x r ih=>
  simp only[List.all_cons,aD]at h;obtain⟨h1,h2⟩:=ih h.2;simp only[db,jD,h1,fitAll,h2,Bool.and_true];cases x<;>simp_all [qE,fR,AV.cells,bz]
theorem je.fR{C:Ctx}{H:Array Obj}{c:Array Value}{st:Nat}:∀{l:List AV}{off:Nat},je C H c st l off->je C H c st (l.map Ab.fR) off
 | [],_,_=>trivial
 |x::r,off,⟨⟨v,h1,h2⟩,h3⟩=>⟨⟨v,h1.fR,h2⟩,je.fR h3⟩
theorem ago{σ:List ag}{y:AV}{r:List AV}(fA:fitAll 1 (y::r)=true) (hc:(y::r).flatMap AV.cells=y::r) (hb:(y::r).length<=dE) :
  fC (λ_ _ _=>none) σ (rv [.aE true (y::r),.aM] [.aE true (y::r),.arr []]) (.dm (.t 1) (.t 0) none)=some (.sl σ.length (y::r).length 0 (y::r).length,σ ++ [⟨none,y::r,.live⟩]):=by
 have h1:aG σ none (.aE true (y::r))=some ((y::r).length,y::r):=by
  simp only[aG,aC];rw[ab fA,hc]
 have e:fC (λ_ _ _=>none) σ (rv [.aE true (y::r),.aM] [.aE true (y::r),.arr []]) (.dm (.t 1) (.t 0) none) =
   (match aG σ none (.aE true (y::r))with
    |none=>none
    |some (n,cs)=>if n==0 then some (if ax ([]:List AV)then .aE true []else .arr [],σ)else if fitAll (aC none) []&&decide (([]:List AV).length+n<=dE)then some (.sl σ.length (([]:List AV).flatMap AV.cells++cs).length 0 (([]:List AV).length+n),σ ++ [⟨none,([]:List AV).flatMap AV.cells++cs,.live⟩])else none):=rfl
 have rW : (([]:List AV).length+(y::r).length:Nat)<=dE:=by rw[dD,jf];exact hb
 rw[e,h1];show(if(r.length+1==0)=true then _ else _)=_
 rw[aa (by simp),ab (by simp only[fitAll,Bool.true_and,eP];exact rW)]
 simp
theorem agp{t:Nat}{σ:List ag}{y:AV}{r:List AV}(fA:fitAll 1 (y::r)=true) (hc:(y::r).flatMap AV.cells=y::r) (hb:(y::r).length<=dE) :
  exec 9 (λ_ _ _=>none) (dx t).body ⟨[.aE true (y::r),.aM],none,σ⟩=some (.ret,⟨[.aM,.sl σ.length (y::r).length 0 (y::r).length],none,σ ++ [⟨none,y::r,.live⟩]⟩):=by
 have fM:=ago (σ:=σ) fA hc hb;simp only[dx,exec,dp,lines,dd,want,ev,cU.kN,cU.lz,↓reduceIte,eE,rv,nth,kW,fitAll,List.map_nil];simp only[dG,outs,eT,nth,↓reduceIte,eE,kW,fM]
theorem agq (t:Nat) (σ:List ag):exec 9 (λ_ _ _=>none) (dx t).body ⟨[.ah,.aM],none,σ⟩=some (.ret,⟨[.aM,.ah],none,σ⟩):=by
 simp[dx,exec,dp,lines,dd,want,ev,cU.kN,cU.lz,rv,nth,dG,outs,eT]
theorem agr (t:Nat) (σ:List ag):exec 9 (λ_ _ _=>none) (dx t).body ⟨[.aE true [],.aM],none,σ⟩=some (.ret,⟨[.aM,.aE true []],none,σ⟩):=by
 simp[dx,exec,dp,lines,dd,want,ev,fC,cU.kN,cU.lz,rv,nth,dG,outs,eT,aG,fitAll,ax]
theorem H9 (f t:Nat) (σ:List ag):∀x s r,exec 9 (λ_ _ _=>none) (dx t).body ⟨[x,.aM],none,σ⟩=some (.ret,s)->Ab.results (dx t) s=some r->
   dH (λg=>if g=f then some (dx t)else none) (λ_=>none) 9 1 f [x] σ=some (r,s.σ):=λx s r h1 h3=>by
  have h0:dH (λg=>if g=f then some (dx t)else none) (λ_=>none) 9 0=λ_ _ _=>none:=rfl
  unfold dH;rw[h0];simp only[dC];rw[show({vars:=[x]++List.replicate ((dx t).nv-(dx t).np) .aM,fl:=none,σ:=σ}:St)=⟨[x,.aM],none,σ⟩from rfl];rw[h1,ab (show([x].length==(dx t).np)=true from rfl)];simp only[h3,lH]
theorem ags{f t:Nat}{sl:List Nat}(hm:P.follows .mixedOrders=true) (au:aT P f (dx t) sl=true):eR P f gE:=by
 have hb:cJ P f=true:=by
  unfold aT at au;cases hf:P.funcs[f]? with
  |none=>simp[hf]at au
  |some pf=>simp only[hf,aD]at au;exact au.1
 refine⟨hb,λce _ _ args σ r bp hp ids I w vs hg hv=>?_⟩;have dM:cx P (dH (λg=>if g=f then some (dx t)else none) (λ_=>none) 9 1):=
  (BP hm (λg fn h=>by
   by_cases e:g=f
   ·subst e;simp at h;subst h;exact⟨sl,au⟩
   ·simp[e]at h) (λ_ _ h=>by simp at h) 1).1
 have oz:∀v,v = .slice none 0 0->Calls P f [v].toArray w λe w' =>∃v aJ I', e = .returned v/\Good (af σ aJ I') w' /\VR (af σ aJ I') w'.heap (.aE false []) v/\Step (af σ ids I) w (af σ aJ I') w' :=λv e=>by
  refine(dM f [.ah] σ .ah σ (H9 f t σ .ah _ .ah (agq t σ) rfl) ids I w [v] hg ⟨v,[],rfl,e,rfl⟩).mono ?_;rintro e w' ⟨v,aJ, I', rfl,k1,k2,k3⟩;exact⟨v,aJ, I', rfl,k1,VR.fR (x:=.ah) k2,k3⟩
 unfold gE at hp;split at hp
 ·simp only[bF,Prod.mk.injEq]at hp
  obtain⟨rfl,rfl⟩:=hp;obtain⟨v,s,rfl,hx,rfl⟩:=hv;exact oz v hx
 ·rename_i nn
  simp only[bF,Prod.mk.injEq]at hp;obtain⟨rfl,rfl⟩:=hp;obtain⟨v,s,rfl,hx,rfl⟩:=hv
  by_cases hn:v = .slice none 0 0
  ·exact oz v hn
  ·have bJ : VR (af σ ids I) w.heap (.aE true []) v:=by
    unfold VR at hx ⊢;refine⟨rfl,?_⟩;rcases hx.2 with⟨h1,a,h2,_⟩|h
    ·refine .inl ⟨rfl,a,h2,λ_=>?_⟩
     cases a with
     |none=>exact absurd h2 hn
     |some q=>rfl
    ·exact .inr h
   refine(dM f [.aE true []] σ (.aE true []) σ (H9 f t σ (.aE true []) _ (.aE true []) (agr t σ) rfl) ids I w [v] hg ⟨v,[],rfl,bJ, rfl⟩).mono ?_;rintro e w' ⟨v,aJ, I', rfl,k1,k2,k3⟩;exact⟨v,aJ, I', rfl,k1,VR.fR (x:=.aE true []) k2,k3⟩
 ·rename_i nn x l
  split at hp
  ·rename_i hc
   simp only[aD,eP]at hc;obtain⟨⟨c1,c2⟩,c3⟩:=hc;simp only[bF,Prod.mk.injEq]at hp;obtain⟨rfl,rfl⟩:=hp;obtain⟨v,s,rfl,hx,rfl⟩:=hv;obtain⟨o1,o2⟩:=agn c1;have bJ : VR (af σ ids I) w.heap (.aE true ((x::l).map fR)) v:=by
    unfold VR at hx ⊢;refine⟨Nw c2,?_⟩;rcases hx.2 with⟨h1,_⟩|⟨ak,off,cap,st,c,el,fz,e,k1,k2,k3,k4⟩
    ·simp at h1
    ·exact .inr ⟨ak,off,cap,st,c,el,fz,by simpa using e,by simpa using k1,k2,k3,je.fR k4⟩
   have:=agp (t:=t) (σ:=σ) (y:=fR x) (r:=l.map fR) o2 o1 (by simpa using c3)
   refine(dM f [.aE true ((x::l).map fR)] σ _ _ (H9 f t σ _ _ (.sl σ.length (x::l).length 0 (x::l).length) this (by simp[Ab.results,dx,bV,jy,nth])) ids I w [v] hg ⟨v,[],rfl,bJ, rfl⟩)
  ·simp at hp
 ·simp at hp
def b8 (t:Nat):Fn:={np:=1,nv:=2,res:=[(1,none)],body:=
 (.seq (.ae ⟨[⟨.mv (.c (.ah)),none,false⟩],[],[1],none⟩)
  (.seq (.seq (.ae ⟨[⟨.mv (.v 0),none,false⟩,⟨.nK false (.t 0),none,false⟩],[],[],some (t,0)⟩)
  (.cond t (.seq (.ae ⟨[⟨.mv (.c (.ah)),none,false⟩],[(1,0)],[0],none⟩) .ret) .skip))
  (.seq (.ae ⟨[⟨.si 1,none,false⟩,⟨.mv (.v 0),none,false⟩,⟨.dm (.t 1) (.t 0) none,none,false⟩,⟨.mv (.t 0),none,false⟩],[(1,0)],[0],none⟩) .ret)))}
theorem wF (f t:Nat) (σ:List ag):∀x s r,exec 9 (λ_ _ _=>none) (b8 t).body ⟨[x,.aM],none,σ⟩=some (.ret,s)->Ab.results (b8 t) s=some r->
   dH (λg=>if g=f then some (b8 t)else none) (λ_=>none) 9 1 f [x] σ=some (r,s.σ):=λx s r h1 h3=>by
  have h0:dH (λg=>if g=f then some (b8 t)else none) (λ_=>none) 9 0=λ_ _ _=>none:=rfl
  unfold dH;rw[h0];simp only[dC];rw[show({vars:=[x]++List.replicate ((b8 t).nv-(b8 t).np) .aM,fl:=none,σ:=σ}:St)=⟨[x,.aM],none,σ⟩from rfl];rw[h1,ab (show([x].length==(b8 t).np)=true from rfl)];simp only[h3,lH]
theorem agt (t:Nat) (σ:List ag):exec 9 (λ_ _ _=>none) (b8 t).body ⟨[.ah,.aM],none,σ⟩=some (.ret,⟨[.aM,.ah],none,σ⟩):=by
 simp[b8,exec,dp,lines,dd,want,ev,cU.kN,cU.lz,rv,nth,dG,outs,eT]
theorem PO (t:Nat) (σ:List ag):exec 9 (λ_ _ _=>none) (b8 t).body ⟨[.aE true [],.aM],none,σ⟩=some (.ret,⟨[.aM,.emp],none,σ⟩):=by
 simp[b8,exec,dp,lines,dd,want,ev,fC,cU.kN,cU.lz,rv,nth,dG,outs,eT,aG,fitAll,ax]
theorem PQ{t:Nat}{σ:List ag}{x:AV}{n:Nat}{cs:List AV}(hb:ev (λ_ _ _=>none) σ σ.length [] (rv [x,.aM] [x]) (.nK false (.t 0))=some (.bool false,none)) (hs:aG σ none x=some (n,cs)) (h0:n ≠ 0) (hn:n<=dE) :
  exec 9 (λ_ _ _=>none) (b8 t).body ⟨[x,.aM],none,σ⟩=some (.ret,⟨[.aM,.sl σ.length cs.length 0 n],none,σ ++ [⟨none,cs,.live⟩]⟩):=by
 have fM:fC (λ_ _ _=>none) σ (rv [x,.aM] [x,.emp]) (.dm (.t 1) (.t 0) none)=some (.sl σ.length cs.length 0 n,σ ++ [⟨none,cs,.live⟩]):=by
  show((match aG σ none x with
   |none=>none
   |some (n,cs)=>if n==0 then some (AV.emp,σ)else if n<=dE then some (AV.sl σ.length cs.length 0 n,σ ++ [ag.mk none cs .live])else none):Option (AV×List ag))=_
  rw[hs];simp only;rw[aa (by simpa using h0),ab hn]
 have B7:ev (λ_ _ _=>none) σ σ.length [] (rv [x,.aM] [x]) (.nK false (.t 0))=some (.bool false,none):=hb;simp only[b8,exec,dp,lines,dd,want,cU.kN,cU.lz,↓reduceIte,eE,kW];simp only[show ∀(σ:List ag) (env:List AV),ev (λ_ _ _=>none) σ σ.length [] (rv [x,.aM] env) (.mv (.c .ah))=some (.ah,none)from λ_ _=>rfl,dG,outs,eT,nth,↓reduceIte,eE,kW];simp only[show ∀(σ:List ag) (env:List AV),ev (λ_ _ _=>none) σ σ.length [] (rv [x,.aM] env) (.mv (.v 0))=some (x,none)from λ_ _=>rfl,B7,nth,eE,↓reduceIte,kW];simp only[show ∀(σ:List ag) (env:List AV),ev (λ_ _ _=>none) σ σ.length [] (rv [x,.aM] env) (.si 1)=some (.emp,none)from λ_ _=>rfl,show ∀(σ:List ag) (env:List AV),ev (λ_ _ _=>none) σ σ.length [] (rv [x,.aM] env) (.mv (.v 0))=some (x,none)from λ_ _=>rfl,fM];simp only[show ∀(σ:List ag) (env:List AV),ev (λ_ _ _=>none) σ σ.length [] (rv [x,.aM] env) (.mv (.t 0))=some (nth env 0,none)from λ_ _=>rfl,nth,dG,outs,eT]
theorem agu{f t:Nat}{sl:List Nat}(hm:P.follows .mixedOrders=true) (au:aT P f (b8 t) sl=true):eR P f fZ:=by
 have hb:cJ P f=true:=by
  unfold aT at au;cases hf:P.funcs[f]? with
  |none=>simp[hf]at au
  |some pf=>simp only[hf,aD]at au;exact au.1
 refine⟨hb,λce _ _ args σ r bp hp ids I w vs hg hv=>?_⟩;have dM:cx P (dH (λg=>if g=f then some (b8 t)else none) (λ_=>none) 9 1):=
  (BP hm (λg fn h=>by
   by_cases e:g=f
   ·subst e;simp at h;subst h;exact⟨sl,au⟩
   ·simp[e]at h) (λ_ _ h=>by simp at h) 1).1
 have oz:∀v,v = .slice none 0 0->Calls P f [v].toArray w λe w' =>∃v aJ I', e = .returned v/\Good (af σ aJ I') w' /\VR (af σ aJ I') w'.heap .emp v/\Step (af σ ids I) w (af σ aJ I') w' :=λv e=>by
  refine(dM f [.ah] σ .ah σ (wF f t σ .ah _ .ah (agt t σ) rfl) ids I w [v] hg ⟨v,[],rfl,e,rfl⟩).mono ?_;rintro e w' ⟨v,aJ, I', rfl,k1,k2,k3⟩;refine⟨v,aJ, I', rfl,k1,?_,k3⟩;unfold VR at k2 ⊢;exact⟨none,k2⟩
 have agv:∀a,Calls P f [Value.slice (some a) 0 0].toArray w λe w' =>∃v aJ I', e = .returned v/\Good (af σ aJ I') w' /\VR (af σ aJ I') w'.heap .emp v/\Step (af σ ids I) w (af σ aJ I') w' :=λa=>
  dM f [.aE true []] σ .emp σ (wF f t σ (.aE true []) _ .emp (PO t σ) rfl) ids I w [_] hg ⟨_,[],rfl,by unfold VR;exact⟨rfl,.inl ⟨rfl,some a,rfl,λ_=>rfl⟩⟩,rfl⟩
 unfold fZ at hp;split at hp
 ·simp only[bF,Prod.mk.injEq]at hp
  obtain⟨rfl,rfl⟩:=hp;obtain⟨v,s,rfl,hx,rfl⟩:=hv;exact oz v hx
 ·simp only[bF,Prod.mk.injEq]at hp
  obtain⟨rfl,rfl⟩:=hp;obtain⟨v,s,rfl,hx,rfl⟩:=hv;unfold VR at hx;obtain⟨a,rfl⟩:=hx;cases a with
  |none=>exact oz _ rfl
  |some a=>exact agv a
 ·rename_i nn
  simp only[bF,Prod.mk.injEq]at hp;obtain⟨rfl,rfl⟩:=hp;obtain⟨v,s,rfl,hx,rfl⟩:=hv
  by_cases hn:v = .slice none 0 0
  ·exact oz v hn
  ·have bJ : VR (af σ ids I) w.heap (.aE true []) v:=by
    unfold VR at hx ⊢;refine⟨rfl,?_⟩;rcases hx.2 with⟨h1,a,h2,_⟩|h
    ·refine .inl ⟨rfl,a,h2,λ_=>?_⟩
     cases a with
     |none=>exact absurd h2 hn
     |some q=>rfl
    ·exact .inr h
   exact dM f [.aE true []] σ .emp σ (wF f t σ (.aE true []) _ .emp (PO t σ) rfl) ids I w [v] hg ⟨v,[],rfl,bJ, rfl⟩
 ·rename_i nn x l
  split at hp
  ·rename_i hc
   simp only[aD,eP]at hc;simp only[bF,Prod.mk.injEq]at hp;obtain⟨rfl,rfl⟩:=hp;have et:aG σ none (.aE nn (x::l))=some ((x::l).length,x::l):=by
    show(if fitAll (aC none) (x::l)=true then some ((x::l).length,(x::l).flatMap AV.cells)else none)=_
    rw[ab (agm hc.1),agl hc.1]
   have B7:ev (λ_ _ _=>none) σ σ.length [] (rv [.aE nn (x::l),.aM] [.aE nn (x::l)]) (.nK false (.t 0))=some (.bool false,none):=by
    cases nn<;>simp[ev,rv,nth]
   have:=PQ (t:=t) (σ:=σ) B7 et (by simp) hc.2
   exact dM f [.aE nn (x::l)] σ _ _ (wF f t σ _ _ (.sl σ.length (x::l).length 0 (x::l).length) this (by simp[Ab.results,b8,bV,jy,nth])) ids I w vs hg hv
  ·simp at hp
 ·rename_i b u off len
  cases hu:upto σ b u with
  |none=>simp[hu]at hp
  |some B=>
   simp only[hu]at hp;split at hp
   case isFalse=>simp at hp
   rename_i hc;simp only[aD,eP]at hc;obtain⟨⟨⟨c1,c2⟩,c3⟩,c4⟩:=hc;have c2:=Bw c2;have bR:B.st = .live:=by revert c1;cases B.st<;>simp[eo.isLive]
   have et:aG σ none (.sl b u off len)=some (len,(B.cells.drop off).take len):=by
    unfold aG;simp only[hu,aC,c2,Nat.mul_one];rw[ab ⟨c3,trivial⟩]
   have B7:ev (λ_ _ _=>none) σ σ.length [] (rv [.sl b u off len,.aM] [.sl b u off len]) (.nK false (.t 0))=some (.bool false,none):=by
    simp[ev,rv,nth,hu,bR]
   by_cases h0:len=0
   ·subst h0
    simp only[kW,dC,bF,Prod.mk.injEq]at hp;obtain⟨rfl,rfl⟩:=hp;have:exec 9 (λ_ _ _=>none) (b8 t).body ⟨[.sl b u off 0,.aM],none,σ⟩=some (.ret,⟨[.aM,.emp],none,σ⟩):=by
     have fM:fC (λ_ _ _=>none) σ (rv [.sl b u off 0,.aM] [.sl b u off 0,.emp]) (.dm (.t 1) (.t 0) none)=some (.emp,σ):=by
      show((match aG σ none (.sl b u off 0)with
       |none=>none
       |some (n,cs)=>if n==0 then some (AV.emp,σ)else if n<=dE then some (AV.sl σ.length cs.length 0 n,σ ++ [ag.mk none cs .live])else none):Option (AV×List ag))=_
      rw[et];rfl
     simp only[b8,exec,dp,lines,dd,want,cU.kN,cU.lz,↓reduceIte,eE,kW];simp only[show ∀(σ:List ag) (env:List AV),ev (λ_ _ _=>none) σ σ.length [] (rv [.sl b u off 0,.aM] env) (.mv (.c .ah))=some (.ah,none)from λ_ _=>rfl,dG,outs,eT,nth,↓reduceIte,eE,kW];simp only[show ∀(σ:List ag) (env:List AV),ev (λ_ _ _=>none) σ σ.length [] (rv [.sl b u off 0,.aM] env) (.mv (.v 0))=some (.sl b u off 0,none)from λ_ _=>rfl,B7,nth,eE,↓reduceIte,kW];simp only[show ∀(σ:List ag) (env:List AV),ev (λ_ _ _=>none) σ σ.length [] (rv [.sl b u off 0,.aM] env) (.si 1)=some (.emp,none)from λ_ _=>rfl,show ∀(σ:List ag) (env:List AV),ev (λ_ _ _=>none) σ σ.length [] (rv [.sl b u off 0,.aM] env) (.mv (.v 0))=some (.sl b u off 0,none)from λ_ _=>rfl,fM];simp only[show ∀(σ:List ag) (env:List AV),ev (λ_ _ _=>none) σ σ.length [] (rv [.sl b u off 0,.aM] env) (.mv (.t 0))=some (nth env 0,none)from λ_ _=>rfl,nth,dG,outs,eT]
    exact dM f [.sl b u off 0] σ _ _ (wF f t σ _ _ .emp this (by simp[Ab.results,b8,bV,jy,nth])) ids I w vs hg hv
   ·have qi : (len==0)=false:=by simpa using h0
    simp only[qi, eE,eG,bF,Prod.mk.injEq]at hp;obtain⟨rfl,rfl⟩:=hp;have:=PQ (t:=t) (σ:=σ) B7 et h0 c4;rw[show((B.cells.drop off).take len).length=len by simp;omega]at this
    exact dM f [.sl b u off len] σ _ _ (wF f t σ _ _ (.sl σ.length len 0 len) this (by simp[Ab.results,b8,bV,jy,nth])) ids I w vs hg hv
 ·simp at hp
end Ab
