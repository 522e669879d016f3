/- A copy of a slice (the library's slices.Clone), known by what it answers, though it asks whether its argument is nil. Condition: the function's small text. slices.Clone at lists of lists: the copy is a new block. Condition: the function's small text. Condition: none. -/
import Derived.Test.YtdenhmniigikcaaGreatAbC
import Derived.Test.YtdenhmniigikcaaGreatAbL
import Derived.Test.YtdenhmniigikcaaGreatAbSortM
set_option linter.all false
namespace Ab
open Go
variable{P:Program}
def dz (t:Nat):Fn:={np:=1,nv:=2,res:=[(1,none)],body:=
 (.seq (.aa ⟨[⟨.mv (.c (.ah)),none,false⟩],[],[1],none⟩)
  (.seq (.seq (.aa ⟨[⟨.mv (.v 0),none,false⟩,⟨.nR false (.t 0),none,false⟩],[],[],some (t,0)⟩)
  (.cond t (.seq (.aa ⟨[⟨.mv (.c (.ah)),none,false⟩],[(1,0)],[0],none⟩) .ret) .skip))
  (.seq (.aa ⟨[⟨.dE [] 1,none,false⟩,⟨.mv (.v 0),none,false⟩,⟨.df (.t 1) (.t 0) none,none,false⟩,⟨.mv (.t 0),none,false⟩],[(1,0)],[0],none⟩) .ret)))}
theorem agT{l:List AV}(h:l.all isScalar=true):l.flatMap AV.cells=l:=by
 induction l with
 |nil=>rfl
 |cons x r ih=>
  simp only[List.all_cons,aD]at h;rw[jG,ih h.2];cases x<;>simp_all [isScalar,AV.cells]
theorem agU{l:List AV}(h:l.all isScalar=true):fitAll 1 l=true:=by
 induction l with
 |nil=>rfl
 |cons x r ih=>
  simp only[List.all_cons,aD]at h;simp only[fitAll,ih h.2,Bool.and_true];cases x<;>simp_all [isScalar,AV.cells,bB]
end Ab
namespace Ab
open Go
variable{P:Program}
theorem agV{l:List AV}(h:l.all qI=true):(l.map fU).flatMap AV.cells=l.map fU/\fitAll 1 (l.map fU)=true:=by
 induction l with
 |nil=>exact⟨rfl,rfl⟩
 |cons x r ih=>
  simp only[List.all_cons,aD]at h;obtain⟨h1,h2⟩:=ih h.2;simp only[dd,jG,h1,fitAll,h2,Bool.and_true];cases x<;>simp_all [qI,fU,AV.cells,bB]
theorem ji.fU{C:Ctx}{H:Array Obj}{c:Array Value}{st:Nat}:∀{l:List AV}{off:Nat},ji C H c st l off->ji C H c st (l.map Ab.fU) off
 | [],_,_=>trivial
 |x::r,off,⟨⟨v,h1,h2⟩,h3⟩=>⟨⟨v,h1.fU,h2⟩,ji.fU h3⟩
theorem agW{σ:List ag}{y:AV}{r:List AV}(fE:fitAll 1 (y::r)=true) (hc:(y::r).flatMap AV.cells=y::r) (hb:(y::r).length<=dG) :
  fF (λ_ _ _=>none) σ (rv [.aE true (y::r),.aM] [.aE true (y::r),.arr []]) (.df (.t 1) (.t 0) none)=some (.sl σ.length (y::r).length 0 (y::r).length,σ ++ [⟨none,y::r,.live⟩]):=by
 have h1:aG σ none (.aE true (y::r))=some ((y::r).length,y::r):=by
  simp only[aG,aC];rw[ae fE,hc]
 have e:fF (λ_ _ _=>none) σ (rv [.aE true (y::r),.aM] [.aE true (y::r),.arr []]) (.df (.t 1) (.t 0) none) =
   (match aG σ none (.aE true (y::r))with
    |none=>none
    |some (n,cs)=>if n==0 then some (if ay ([]:List AV)then .aE true []else .arr [],σ)else if fitAll (aC none) []&&decide (([]:List AV).length+n<=dG)then some (.sl σ.length (([]:List AV).flatMap AV.cells++cs).length 0 (([]:List AV).length+n),σ ++ [⟨none,([]:List AV).flatMap AV.cells++cs,.live⟩])else none):=rfl
 have rZ : (([]:List AV).length+(y::r).length:Nat)<=dG:=by rw[dF,jj];exact hb
 rw[e,h1];show(if(r.length+1==0)=true then _ else _)=_
 rw[ab (by simp),ae (by simp only[fitAll,Bool.true_and,eR];exact rZ)]
 simp
theorem agX{t:Nat}{σ:List ag}{y:AV}{r:List AV}(fE:fitAll 1 (y::r)=true) (hc:(y::r).flatMap AV.cells=y::r) (hb:(y::r).length<=dG) :
  exec 9 (λ_ _ _=>none) (dz t).body ⟨[.aE true (y::r),.aM],none,σ⟩=some (.ret,⟨[.aM,.sl σ.length (y::r).length 0 (y::r).length],none,σ ++ [⟨none,y::r,.live⟩]⟩):=by
 have fP:=agW (σ:=σ) fE hc hb;simp only[dz,exec,dq,lines,dg,want,ev,cW.kQ,cW.lC,↓reduceIte,eu,rv,nth,kZ,fitAll,List.map_nil];simp only[dI,outs,eV,nth,↓reduceIte,eu,kZ,fP]
theorem agY (t:Nat) (σ:List ag):exec 9 (λ_ _ _=>none) (dz t).body ⟨[.ah,.aM],none,σ⟩=some (.ret,⟨[.aM,.ah],none,σ⟩):=by
 simp[dz,exec,dq,lines,dg,want,ev,cW.kQ,cW.lC,rv,nth,dI,outs,eV]
theorem agZ (t:Nat) (σ:List ag):exec 9 (λ_ _ _=>none) (dz t).body ⟨[.aE true [],.aM],none,σ⟩=some (.ret,⟨[.aM,.aE true []],none,σ⟩):=by
 simp[dz,exec,dq,lines,dg,want,ev,fF,cW.kQ,cW.lC,rv,nth,dI,outs,eV,aG,fitAll,ay]
theorem IJ (f t:Nat) (σ:List ag):∀x s r,exec 9 (λ_ _ _=>none) (dz t).body ⟨[x,.aM],none,σ⟩=some (.ret,s)->Ab.results (dz t) s=some r->
   dJ (λg=>if g=f then some (dz t)else none) (λ_=>none) 9 1 f [x] σ=some (r,s.σ):=λx s r h1 h3=>by
  have h0:dJ (λg=>if g=f then some (dz t)else none) (λ_=>none) 9 0=λ_ _ _=>none:=rfl
  unfold dJ;rw[h0];simp only[dA];rw[show({vars:=[x]++List.replicate ((dz t).nv-(dz t).np) .aM,fl:=none,σ:=σ}:St)=⟨[x,.aM],none,σ⟩from rfl];rw[h1,ae (show([x].length==(dz t).np)=true from rfl)];simp only[h3,lK]
theorem ag0{f t:Nat}{sl:List Nat}(hm:P.follows .mixedOrders=true) (au:aN P f (dz t) sl=true):eT P f gI:=by
 have hb:cM P f=true:=by
  unfold aN at au;cases hf:P.funcs[f]? with
  |none=>simp[hf]at au
  |some pf=>simp only[hf,aD]at au;exact au.1
 refine⟨hb,λce _ _ args σ r bp hp ids I w vs hg hv=>?_⟩;have dM:cz P (dJ (λg=>if g=f then some (dz t)else none) (λ_=>none) 9 1):=
  (BZ hm (λg fn h=>by
   by_cases e:g=f
   ·subst e;simp at h;subst h;exact⟨sl,au⟩
   ·simp[e]at h) (λ_ _ h=>by simp at h) 1).1
 have oF:∀v,v = .slice none 0 0->Calls P f [v].toArray w λe w' =>∃v aJ I', e = .returned v/\Good (af σ aJ I') w' /\VR (af σ aJ I') w'.heap (.aE false []) v/\Step (af σ ids I) w (af σ aJ I') w' :=λv e=>by
  refine(dM f [.ah] σ .ah σ (IJ f t σ .ah _ .ah (agY t σ) rfl) ids I w [v] hg ⟨v,[],rfl,e,rfl⟩).mono ?_;rintro e w' ⟨v,aJ, I', rfl,k1,k2,k3⟩;exact⟨v,aJ, I', rfl,k1,VR.fU (x:=.ah) k2,k3⟩
 unfold gI at hp;split at hp
 ·simp only[bJ,Prod.mk.injEq]at hp
  obtain⟨rfl,rfl⟩:=hp;obtain⟨v,s,rfl,hx,rfl⟩:=hv;exact oF v hx
 ·rename_i nn
  simp only[bJ,Prod.mk.injEq]at hp;obtain⟨rfl,rfl⟩:=hp;obtain⟨v,s,rfl,hx,rfl⟩:=hv
  by_cases hn:v = .slice none 0 0
  ·exact oF v hn
  ·have bR : VR (af σ ids I) w.heap (.aE true []) v:=by
    unfold VR at hx ⊢;refine⟨rfl,?_⟩;rcases hx.2 with⟨h1,a,h2,_⟩|h
    ·refine .inl ⟨rfl,a,h2,λ_=>?_⟩
     cases a with
     |none=>exact absurd h2 hn
     |some q=>rfl
    ·exact .inr h
   refine(dM f [.aE true []] σ (.aE true []) σ (IJ f t σ (.aE true []) _ (.aE true []) (agZ t σ) rfl) ids I w [v] hg ⟨v,[],rfl,bR, rfl⟩).mono ?_;rintro e w' ⟨v,aJ, I', rfl,k1,k2,k3⟩;exact⟨v,aJ, I', rfl,k1,VR.fU (x:=.aE true []) k2,k3⟩
 ·rename_i nn x l
  split at hp
  ·rename_i hc
   simp only[aD,eR]at hc;obtain⟨⟨c1,c2⟩,c3⟩:=hc;simp only[bJ,Prod.mk.injEq]at hp;obtain⟨rfl,rfl⟩:=hp;obtain⟨v,s,rfl,hx,rfl⟩:=hv;obtain⟨o1,o2⟩:=agV c1;have bR : VR (af σ ids I) w.heap (.aE true ((x::l).map fU)) v:=by
    unfold VR at hx ⊢;refine⟨Oa c2,?_⟩;rcases hx.2 with⟨h1,_⟩|⟨al,off,cap,st,c,el,fz,e,k1,k2,k3,k4⟩
    ·simp at h1
    ·exact .inr ⟨al,off,cap,st,c,el,fz,by simpa using e,by simpa using k1,k2,k3,ji.fU k4⟩
   have:=agX (t:=t) (σ:=σ) (y:=fU x) (r:=l.map fU) o2 o1 (by simpa using c3)
   refine(dM f [.aE true ((x::l).map fU)] σ _ _ (IJ f t σ _ _ (.sl σ.length (x::l).length 0 (x::l).length) this (by simp[Ab.results,dz,bZ,jB,nth])) ids I w [v] hg ⟨v,[],rfl,bR, rfl⟩)
  ·simp at hp
 ·simp at hp
def ck (t:Nat):Fn:={np:=1,nv:=2,res:=[(1,none)],body:=
 (.seq (.aa ⟨[⟨.mv (.c (.ah)),none,false⟩],[],[1],none⟩)
  (.seq (.seq (.aa ⟨[⟨.mv (.v 0),none,false⟩,⟨.nR false (.t 0),none,false⟩],[],[],some (t,0)⟩)
  (.cond t (.seq (.aa ⟨[⟨.mv (.c (.ah)),none,false⟩],[(1,0)],[0],none⟩) .ret) .skip))
  (.seq (.aa ⟨[⟨.su 1,none,false⟩,⟨.mv (.v 0),none,false⟩,⟨.df (.t 1) (.t 0) none,none,false⟩,⟨.mv (.t 0),none,false⟩],[(1,0)],[0],none⟩) .ret)))}
theorem wK (f t:Nat) (σ:List ag):∀x s r,exec 9 (λ_ _ _=>none) (ck t).body ⟨[x,.aM],none,σ⟩=some (.ret,s)->Ab.results (ck t) s=some r->
   dJ (λg=>if g=f then some (ck t)else none) (λ_=>none) 9 1 f [x] σ=some (r,s.σ):=λx s r h1 h3=>by
  have h0:dJ (λg=>if g=f then some (ck t)else none) (λ_=>none) 9 0=λ_ _ _=>none:=rfl
  unfold dJ;rw[h0];simp only[dA];rw[show({vars:=[x]++List.replicate ((ck t).nv-(ck t).np) .aM,fl:=none,σ:=σ}:St)=⟨[x,.aM],none,σ⟩from rfl];rw[h1,ae (show([x].length==(ck t).np)=true from rfl)];simp only[h3,lK]
theorem ag1 (t:Nat) (σ:List ag):exec 9 (λ_ _ _=>none) (ck t).body ⟨[.ah,.aM],none,σ⟩=some (.ret,⟨[.aM,.ah],none,σ⟩):=by
 simp[ck,exec,dq,lines,dg,want,ev,cW.kQ,cW.lC,rv,nth,dI,outs,eV]
theorem Qt (t:Nat) (σ:List ag):exec 9 (λ_ _ _=>none) (ck t).body ⟨[.aE true [],.aM],none,σ⟩=some (.ret,⟨[.aM,.emp],none,σ⟩):=by
 simp[ck,exec,dq,lines,dg,want,ev,fF,cW.kQ,cW.lC,rv,nth,dI,outs,eV,aG,fitAll,ay]
theorem Qu{t:Nat}{σ:List ag}{x:AV}{n:Nat}{cs:List AV}(hb:ev (λ_ _ _=>none) σ σ.length [] (rv [x,.aM] [x]) (.nR false (.t 0))=some (.bool false,none)) (hs:aG σ none x=some (n,cs)) (h0:n ≠ 0) (hn:n<=dG) :
  exec 9 (λ_ _ _=>none) (ck t).body ⟨[x,.aM],none,σ⟩=some (.ret,⟨[.aM,.sl σ.length cs.length 0 n],none,σ ++ [⟨none,cs,.live⟩]⟩):=by
 have fP:fF (λ_ _ _=>none) σ (rv [x,.aM] [x,.emp]) (.df (.t 1) (.t 0) none)=some (.sl σ.length cs.length 0 n,σ ++ [⟨none,cs,.live⟩]):=by
  show((match aG σ none x with
   |none=>none
   |some (n,cs)=>if n==0 then some (AV.emp,σ)else if n<=dG then some (AV.sl σ.length cs.length 0 n,σ ++ [ag.mk none cs .live])else none):Option (AV×List ag))=_
  rw[hs];simp only;rw[ab (by simpa using h0),ae hn]
 have Ci:ev (λ_ _ _=>none) σ σ.length [] (rv [x,.aM] [x]) (.nR false (.t 0))=some (.bool false,none):=hb;simp only[ck,exec,dq,lines,dg,want,cW.kQ,cW.lC,↓reduceIte,eu,kZ];simp only[show ∀(σ:List ag) (env:List AV),ev (λ_ _ _=>none) σ σ.length [] (rv [x,.aM] env) (.mv (.c .ah))=some (.ah,none)from λ_ _=>rfl,dI,outs,eV,nth,↓reduceIte,eu,kZ];simp only[show ∀(σ:List ag) (env:List AV),ev (λ_ _ _=>none) σ σ.length [] (rv [x,.aM] env) (.mv (.v 0))=some (x,none)from λ_ _=>rfl,Ci,nth,eu,↓reduceIte,kZ];simp only[show ∀(σ:List ag) (env:List AV),ev (λ_ _ _=>none) σ σ.length [] (rv [x,.aM] env) (.su 1)=some (.emp,none)from λ_ _=>rfl,show ∀(σ:List ag) (env:List AV),ev (λ_ _ _=>none) σ σ.length [] (rv [x,.aM] env) (.mv (.v 0))=some (x,none)from λ_ _=>rfl,fP];simp only[show ∀(σ:List ag) (env:List AV),ev (λ_ _ _=>none) σ σ.length [] (rv [x,.aM] env) (.mv (.t 0))=some (nth env 0,none)from λ_ _=>rfl,nth,dI,outs,eV]
theorem ag2{f t:Nat}{sl:List Nat}(hm:P.follows .mixedOrders=true) (au:aN P f (ck t) sl=true):eT P f gg:=by
 have hb:cM P f=true:=by
  unfold aN at au;cases hf:P.funcs[f]? with
  |none=>simp[hf]at au
  |some pf=>simp only[hf,aD]at au;exact au.1
 refine⟨hb,λce _ _ args σ r bp hp ids I w vs hg hv=>?_⟩;have dM:cz P (dJ (λg=>if g=f then some (ck t)else none) (λ_=>none) 9 1):=
  (BZ hm (λg fn h=>by
   by_cases e:g=f
   ·subst e;simp at h;subst h;exact⟨sl,au⟩
   ·simp[e]at h) (λ_ _ h=>by simp at h) 1).1
 have oF:∀v,v = .slice none 0 0->Calls P f [v].toArray w λe w' =>∃v aJ I', e = .returned v/\Good (af σ aJ I') w' /\VR (af σ aJ I') w'.heap .emp v/\Step (af σ ids I) w (af σ aJ I') w' :=λv e=>by
  refine(dM f [.ah] σ .ah σ (wK f t σ .ah _ .ah (ag1 t σ) rfl) ids I w [v] hg ⟨v,[],rfl,e,rfl⟩).mono ?_;rintro e w' ⟨v,aJ, I', rfl,k1,k2,k3⟩;refine⟨v,aJ, I', rfl,k1,?_,k3⟩;unfold VR at k2 ⊢;exact⟨none,k2⟩
 have ag3:∀a,Calls P f [Value.slice (some a) 0 0].toArray w λe w' =>∃v aJ I', e = .returned v/\Good (af σ aJ I') w' /\VR (af σ aJ I') w'.heap .emp v/\Step (af σ ids I) w (af σ aJ I') w' :=λa=>
  dM f [.aE true []] σ .emp σ (wK f t σ (.aE true []) _ .emp (Qt t σ) rfl) ids I w [_] hg ⟨_,[],rfl,by unfold VR;exact⟨rfl,.inl ⟨rfl,some a,rfl,λ_=>rfl⟩⟩,rfl⟩
 unfold gg at hp;split at hp
 ·simp only[bJ,Prod.mk.injEq]at hp
  obtain⟨rfl,rfl⟩:=hp;obtain⟨v,s,rfl,hx,rfl⟩:=hv;exact oF v hx
 ·simp only[bJ,Prod.mk.injEq]at hp
  obtain⟨rfl,rfl⟩:=hp;obtain⟨v,s,rfl,hx,rfl⟩:=hv;unfold VR at hx;obtain⟨a,rfl⟩:=hx;cases a with
  |none=>exact oF _ rfl
  |some a=>exact ag3 a
 ·rename_i nn
  simp only[bJ,Prod.mk.injEq]at hp;obtain⟨rfl,rfl⟩:=hp;obtain⟨v,s,rfl,hx,rfl⟩:=hv
  by_cases hn:v = .slice none 0 0
  ·exact oF v hn
  ·have bR : VR (af σ ids I) w.heap (.aE true []) v:=by
    unfold VR at hx ⊢;refine⟨rfl,?_⟩;rcases hx.2 with⟨h1,a,h2,_⟩|h
    ·refine .inl ⟨rfl,a,h2,λ_=>?_⟩
     cases a with
     |none=>exact absurd h2 hn
     |some q=>rfl
    ·exact .inr h
   exact dM f [.aE true []] σ .emp σ (wK f t σ (.aE true []) _ .emp (Qt t σ) rfl) ids I w [v] hg ⟨v,[],rfl,bR, rfl⟩
 ·rename_i nn x l
  split at hp
  ·rename_i hc
   simp only[aD,eR]at hc;simp only[bJ,Prod.mk.injEq]at hp;obtain⟨rfl,rfl⟩:=hp;have et:aG σ none (.aE nn (x::l))=some ((x::l).length,x::l):=by
    show(if fitAll (aC none) (x::l)=true then some ((x::l).length,(x::l).flatMap AV.cells)else none)=_
    rw[ae (agU hc.1),agT hc.1]
   have Ci:ev (λ_ _ _=>none) σ σ.length [] (rv [.aE nn (x::l),.aM] [.aE nn (x::l)]) (.nR false (.t 0))=some (.bool false,none):=by
    cases nn<;>simp[ev,rv,nth]
   have:=Qu (t:=t) (σ:=σ) Ci et (by simp) hc.2
   exact dM f [.aE nn (x::l)] σ _ _ (wK f t σ _ _ (.sl σ.length (x::l).length 0 (x::l).length) this (by simp[Ab.results,ck,bZ,jB,nth])) ids I w vs hg hv
  ·simp at hp
 ·rename_i b u off len
  cases hu:upto σ b u with
  |none=>simp[hu]at hp
  |some B=>
   simp only[hu]at hp;split at hp
   case isFalse=>simp at hp
   rename_i hc;simp only[aD,eR]at hc;obtain⟨⟨⟨c1,c2⟩,c3⟩,c4⟩:=hc;have c2:=BG c2;have bV:B.st = .live:=by revert c1;cases B.st<;>simp[eo.isLive]
   have et:aG σ none (.sl b u off len)=some (len,(B.cells.drop off).take len):=by
    unfold aG;simp only[hu,aC,c2,Nat.mul_one];rw[ae ⟨c3,trivial⟩]
   have Ci:ev (λ_ _ _=>none) σ σ.length [] (rv [.sl b u off len,.aM] [.sl b u off len]) (.nR false (.t 0))=some (.bool false,none):=by
    simp[ev,rv,nth,hu,bV]
   by_cases h0:len=0
   ·subst h0
    simp only[kZ,dA,bJ,Prod.mk.injEq]at hp;obtain⟨rfl,rfl⟩:=hp;have:exec 9 (λ_ _ _=>none) (ck t).body ⟨[.sl b u off 0,.aM],none,σ⟩=some (.ret,⟨[.aM,.emp],none,σ⟩):=by
     have fP:fF (λ_ _ _=>none) σ (rv [.sl b u off 0,.aM] [.sl b u off 0,.emp]) (.df (.t 1) (.t 0) none)=some (.emp,σ):=by
      show((match aG σ none (.sl b u off 0)with
       |none=>none
       |some (n,cs)=>if n==0 then some (AV.emp,σ)else if n<=dG then some (AV.sl σ.length cs.length 0 n,σ ++ [ag.mk none cs .live])else none):Option (AV×List ag))=_
      rw[et];rfl
     simp only[ck,exec,dq,lines,dg,want,cW.kQ,cW.lC,↓reduceIte,eu,kZ];simp only[show ∀(σ:List ag) (env:List AV),ev (λ_ _ _=>none) σ σ.length [] (rv [.sl b u off 0,.aM] env) (.mv (.c .ah))=some (.ah,none)from λ_ _=>rfl,dI,outs,eV,nth,↓reduceIte,eu,kZ];simp only[show ∀(σ:List ag) (env:List AV),ev (λ_ _ _=>none) σ σ.length [] (rv [.sl b u off 0,.aM] env) (.mv (.v 0))=some (.sl b u off 0,none)from λ_ _=>rfl,Ci,nth,eu,↓reduceIte,kZ];simp only[show ∀(σ:List ag) (env:List AV),ev (λ_ _ _=>none) σ σ.length [] (rv [.sl b u off 0,.aM] env) (.su 1)=some (.emp,none)from λ_ _=>rfl,show ∀(σ:List ag) (env:List AV),ev (λ_ _ _=>none) σ σ.length [] (rv [.sl b u off 0,.aM] env) (.mv (.v 0))=some (.sl b u off 0,none)from λ_ _=>rfl,fP];simp only[show ∀(σ:List ag) (env:List AV),ev (λ_ _ _=>none) σ σ.length [] (rv [.sl b u off 0,.aM] env) (.mv (.t 0))=some (nth env 0,none)from λ_ _=>rfl,nth,dI,outs,eV]
    exact dM f [.sl b u off 0] σ _ _ (wK f t σ _ _ .emp this (by simp[Ab.results,ck,bZ,jB,nth])) ids I w vs hg hv
   ·have qk : (len==0)=false:=by simpa using h0
    simp only[qk, eu,ew,bJ,Prod.mk.injEq]at hp;obtain⟨rfl,rfl⟩:=hp;have:=Qu (t:=t) (σ:=σ) Ci et h0 c4;rw[show((B.cells.drop off).take len).length=len by simp;omega]at this
    exact dM f [.sl b u off len] σ _ _ (wK f t σ _ _ (.sl σ.length len 0 len) this (by simp[Ab.results,ck,bZ,jB,nth])) ids I w vs hg hv
 ·simp at hp
end Ab
