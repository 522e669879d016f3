/- A copy of a slice (the library's slices.Clone), known by what it answers, though it asks whether its argument is nil. Condition: the function's small text. slices.Clone at lists of lists: the copy is a new block. Condition: the function's small text. Condition: none. -/
import Derived.Test.YtdenhmniigikcaaGreatAbC
import Derived.Test.YtdenhmniigikcaaGreatAbL
import Derived.Test.YtdenhmniigikcaaGreatAbSortM
set_option linter.all false
open Option renaming some->aa,none->ab
open Bool renaming true->ad,false->ae
open List renaming replicate->ag,length->ah
namespace Ab
open Go
variable{P:Program}
def ef (t:Nat):Fn:={np:=1,nv:=2,res:=[(1,ab)],body:=
 (.seq (.cM ⟨[⟨.mv (.c (.aJ)),ab,ae⟩],[],[1],ab⟩)
  (.seq (.seq (.cM ⟨[⟨.mv (.v 0),ab,ae⟩,⟨.pI ae (.t 0),ab,ae⟩],[],[],aa (t,0)⟩)
  (.cond t (.seq (.cM ⟨[⟨.mv (.c (.aJ)),ab,ae⟩],[(1,0)],[0],ab⟩) .ret) .skip))
  (.seq (.cM ⟨[⟨.dV [] 1,ab,ae⟩,⟨.mv (.v 0),ab,ae⟩,⟨.dH (.t 1) (.t 0) ab,ab,ae⟩,⟨.mv (.t 0),ab,ae⟩],[(1,0)],[0],ab⟩) .ret)))}
variable{l:ao}
def aiB(h:l.all isScalar=ad):l.flatMap AV.cells=l:=by
 induction l with
 |nil=>rfl
 |cons x r a=>
  simp only[List.all_cons,bd]at h;rw[jD,a h.2];cases x<;>simp_all [isScalar,AV.cells]
def aiC(h:l.all isScalar=ad):fitAll 1 l=ad:=by
 induction l with
 |nil=>rfl
 |cons x r a=>
  simp only[List.all_cons,bd]at h;simp only[fitAll,a h.2,Bool.and_true];cases x<;>simp_all [isScalar,AV.cells,bW]
end Ab
namespace Ab
open Go
variable{P:Program}
def aiD{l:ao}(h:l.all sj=ad):(l.map gJ).flatMap AV.cells=l.map gJ/\fitAll 1 (l.map gJ)=ad:=by
 induction l with
 |nil=>exact⟨rfl,rfl⟩
 |cons x r a=>
  simp only[List.all_cons,bd]at h;obtain⟨b,d⟩:=a h.2;simp only[da,jD,b,fitAll,d,Bool.and_true];cases x<;>simp_all [sj,gJ,AV.cells,bW]
def kF.gJ{C:Ctx}{H:Array Obj}{c:Array Value}{st:Nat}:∀{l:ao}{off:Nat},kF C H c st l off->kF C H c st (l.map Ab.gJ) off
 | [],_,_=>trivial
 |x::r,off,⟨⟨v,h1,h2⟩,h3⟩=>⟨⟨v,h1.gJ,h2⟩,kF.gJ h3⟩
variable{σ:aq}{y:AV}{r:ao}
def aiE(a:fitAll 1 (y::r)=ad) (d:(y::r).flatMap AV.cells=y::r) (g:ah (y::r)<=eE) :
  gS (λ_ _ _=>ab) σ (rv [.aX ad (y::r),.aW] [.aX ad (y::r),.arr []]) (.dH (.t 1) (.t 0) ab)=aa (.sl (ah σ) (ah (y::r)) 0 (ah (y::r)),σ ++ [⟨ab,y::r,.live⟩]):=by
 have h:bw σ ab (.aX ad (y::r))=aa (ah (y::r),y::r):=by
  simp only[bw,ba];rw[aD a,d]
 have e:gS (λ_ _ _=>ab) σ (rv [.aX ad (y::r),.aW] [.aX ad (y::r),.arr []]) (.dH (.t 1) (.t 0) ab) =
   (match bw σ ab (.aX ad (y::r))with
    |none=>ab
    |some (n,cs)=>if n==0 then aa (if aY ([]:ao)then .aX ad []else .arr [],σ)else if fitAll (ba ab) []&&decide (ah ([]:ao)+n<=eE)then aa (.sl (ah σ) (ah (([]:ao).flatMap AV.cells++cs)) 0 (ah ([]:ao)+n),σ ++ [⟨ab,([]:ao).flatMap AV.cells++cs,.live⟩])else ab):=rfl
 have b : (ah ([]:ao)+ah (y::r):Nat)<=eE:=by rw[eX,gQ];exact g
 rw[e,h];show(if(ah r+1==0)=ad then _ else _)=_
 rw[aC aA,aD (by simp only[fitAll,Bool.true_and,fy];exact b)]
 simp
variable{t:Nat}
def aiF(a:fitAll 1 (y::r)=ad) (d:(y::r).flatMap AV.cells=y::r) (e:ah (y::r)<=eE) :
  exec 9 (λ_ _ _=>ab) (ef t).body ⟨[.aX ad (y::r),.aW],ab,σ⟩=aa (.ret,⟨[.aW,.sl (ah σ) (ah (y::r)) 0 (ah (y::r))],ab,σ ++ [⟨ab,y::r,.live⟩]⟩):=by
 have b:=aiE (σ:=σ) a d e;simp only[ef,exec,dJ,lines,dQ,want,ev,dN.mb,dN.mU,↓reduceIte,ff,rv,nth,mF,fitAll,List.map_nil];simp only[eI,outs,eY,nth,↓reduceIte,ff,mF,b]
def aiG (t:Nat) (σ:aq):exec 9 (λ_ _ _=>ab) (ef t).body ⟨[.aJ,.aW],ab,σ⟩=aa (.ret,⟨[.aW,.aJ],ab,σ⟩):=by
 simp[ef,exec,dJ,lines,dQ,want,ev,dN.mb,dN.mU,rv,nth,eI,outs,eY]
def aiH (t:Nat) (σ:aq):exec 9 (λ_ _ _=>ab) (ef t).body ⟨[.aX ad [],.aW],ab,σ⟩=aa (.ret,⟨[.aW,.aX ad []],ab,σ⟩):=by
 simp[ef,exec,dJ,lines,dQ,want,ev,gS,dN.mb,dN.mU,rv,nth,eI,outs,eY,bw,fitAll,aY]
def IL (f t:Nat) (σ:aq):∀x s r,exec 9 (λ_ _ _=>ab) (ef t).body ⟨[x,.aW],ab,σ⟩=aa (.ret,s)->Ab.results (ef t) s=aa r->
   eJ (λg=>if g=f then aa (ef t)else ab) (λ_=>ab) 9 1 f [x] σ=aa (r,s.σ):=λx s r a b=>by
  have d:eJ (λg=>if g=f then aa (ef t)else ab) (λ_=>ab) 9 0=λ_ _ _=>ab:=rfl
  unfold eJ;rw[d];simp only[dM];rw[show({vars:=[x]++ag ((ef t).nv-(ef t).np) .aW,fl:=ab,σ:=σ}:St)=⟨[x,.aW],ab,σ⟩from rfl];rw[a,aD (show(ah [x]==(ef t).np)=ad from rfl)];simp only[b,nh]
variable{f:Nat}{sl:List Nat}
def aiI(K:P.follows .mixedOrders=ad) (d:rK P f (ef t) sl=ad):fH P f iI:=by
 have L:dm P f=ad:=by
  unfold rK at d;cases E:P.funcs[f]? with
  |none=>simp[E]at d
  |some W=>simp only[E,bd]at d;exact d.1
 refine⟨L,λce _ _ args σ r M i ids I w X C D=>?_⟩;have m:cR P (eJ (λg=>if g=f then aa (ef t)else ab) (λ_=>ab) 9 1):=
  (Eb K (λg fn h=>by
   by_cases e:g=f
   .subst e;simp at h;subst h;exact⟨sl,d⟩
   .simp[e]at h) (λ_ _ h=>fE) 1).1
 have j:∀v,v = .slice ab 0 0->Calls P f [v].toArray w λe u =>∃v b n, e = .returned v/\Good (aI σ b n) u /\VR (aI σ b n) u.heap (.aX ae []) v/\Step (aI σ ids I) w (aI σ b n) u :=λv e=>by
  refine(m f [.aJ] σ .aJ σ (IL f t σ .aJ _ .aJ (aiG t σ) rfl) ids I w [v] C ⟨v,[],rfl,e,rfl⟩).mono ?_;rintro e u ⟨v,b, n, rfl,z,A,B⟩;exact⟨v,b, n, rfl,z,VR.gJ (x:=.aJ) A,B⟩
 unfold iI at i;split at i
 .simp only[ct,Prod.mk.injEq]at i
  obtain⟨rfl,rfl⟩:=i;obtain⟨v,s,rfl,o,rfl⟩:=D;exact j v o
 .rename_i N
  simp only[ct,Prod.mk.injEq]at i;obtain⟨rfl,rfl⟩:=i;obtain⟨v,s,rfl,o,rfl⟩:=D
  by_cases F:v = .slice ab 0 0
  .exact j v F
  .have p : VR (aI σ ids I) w.heap (.aX ad []) v:=by
    unfold VR at o ⊢;refine⟨rfl,?_⟩;rcases o.2 with⟨G,a,H,_⟩|h
    .refine .inl ⟨rfl,a,H,λ_=>?_⟩
     cases a with
     |none=>exact absurd H F
     |some q=>rfl
    .exact .inr h
   refine(m f [.aX ad []] σ (.aX ad []) σ (IL f t σ (.aX ad []) _ (.aX ad []) (aiH t σ) rfl) ids I w [v] C ⟨v,[],rfl,p, rfl⟩).mono ?_;rintro e u ⟨v,b, n, rfl,z,A,B⟩;exact⟨v,b, n, rfl,z,VR.gJ (x:=.aX ad []) A,B⟩
 .rename_i N x l
  split at i
  .rename_i J
   simp only[bd,fy]at J;obtain⟨⟨O,Q⟩,R⟩:=J;simp only[ct,Prod.mk.injEq]at i;obtain⟨rfl,rfl⟩:=i;obtain⟨v,s,rfl,o,rfl⟩:=D;obtain⟨S,T⟩:=aiD O;have p : VR (aI σ ids I) w.heap (.aX ad ((x::l).map gJ)) v:=by
    unfold VR at o ⊢;refine⟨Qa Q,?_⟩;rcases o.2 with⟨G,_⟩|⟨aQ,off,cap,st,c,el,U,e,z,A,B,V⟩
    .simp at G
    .exact .inr ⟨aQ,off,cap,st,c,el,U,iT,by simpa using z,A,B,kF.gJ V⟩
   have:=aiF (t:=t) (σ:=σ) (y:=gJ x) (r:=l.map gJ) T S (by simpa using R)
   refine(m f [.aX ad ((x::l).map gJ)] σ _ _ (IL f t σ _ _ (.sl (ah σ) (ah (x::l)) 0 (ah (x::l))) this (by simp[Ab.results,ef,cu,mc,nth])) ids I w [v] C ⟨v,[],rfl,p, rfl⟩)
  .simp at i
 .simp at i
def cP (t:Nat):Fn:={np:=1,nv:=2,res:=[(1,ab)],body:=
 (.seq (.cM ⟨[⟨.mv (.c (.aJ)),ab,ae⟩],[],[1],ab⟩)
  (.seq (.seq (.cM ⟨[⟨.mv (.v 0),ab,ae⟩,⟨.pI ae (.t 0),ab,ae⟩],[],[],aa (t,0)⟩)
  (.cond t (.seq (.cM ⟨[⟨.mv (.c (.aJ)),ab,ae⟩],[(1,0)],[0],ab⟩) .ret) .skip))
  (.seq (.cM ⟨[⟨.ue 1,ab,ae⟩,⟨.mv (.v 0),ab,ae⟩,⟨.dH (.t 1) (.t 0) ab,ab,ae⟩,⟨.mv (.t 0),ab,ae⟩],[(1,0)],[0],ab⟩) .ret)))}
def y8 (f t:Nat) (σ:aq):∀x s r,exec 9 (λ_ _ _=>ab) (cP t).body ⟨[x,.aW],ab,σ⟩=aa (.ret,s)->Ab.results (cP t) s=aa r->
   eJ (λg=>if g=f then aa (cP t)else ab) (λ_=>ab) 9 1 f [x] σ=aa (r,s.σ):=λx s r a b=>by
  have d:eJ (λg=>if g=f then aa (cP t)else ab) (λ_=>ab) 9 0=λ_ _ _=>ab:=rfl
  unfold eJ;rw[d];simp only[dM];rw[show({vars:=[x]++ag ((cP t).nv-(cP t).np) .aW,fl:=ab,σ:=σ}:St)=⟨[x,.aW],ab,σ⟩from rfl];rw[a,aD (show(ah [x]==(cP t).np)=ad from rfl)];simp only[b,nh]
def aiJ (t:Nat) (σ:aq):exec 9 (λ_ _ _=>ab) (cP t).body ⟨[.aJ,.aW],ab,σ⟩=aa (.ret,⟨[.aW,.aJ],ab,σ⟩):=by
 simp[cP,exec,dJ,lines,dQ,want,ev,dN.mb,dN.mU,rv,nth,eI,outs,eY]
def Su (t:Nat) (σ:aq):exec 9 (λ_ _ _=>ab) (cP t).body ⟨[.aX ad [],.aW],ab,σ⟩=aa (.ret,⟨[.aW,.emp],ab,σ⟩):=by
 simp[cP,exec,dJ,lines,dQ,want,ev,gS,dN.mb,dN.mU,rv,nth,eI,outs,eY,bw,fitAll,aY]
def Sv{x:AV}{n:Nat}{cs:ao}(d:ev (λ_ _ _=>ab) σ (ah σ) [] (rv [x,.aW] [x]) (.pI ae (.t 0))=aa (.bool ae,ab)) (e:bw σ ab x=aa (n,cs)) (g:n ≠ 0) (h:n<=eE) :
  exec 9 (λ_ _ _=>ab) (cP t).body ⟨[x,.aW],ab,σ⟩=aa (.ret,⟨[.aW,.sl (ah σ) (ah cs) 0 n],ab,σ ++ [⟨ab,cs,.live⟩]⟩):=by
 have a:gS (λ_ _ _=>ab) σ (rv [x,.aW] [x,.emp]) (.dH (.t 1) (.t 0) ab)=aa (.sl (ah σ) (ah cs) 0 n,σ ++ [⟨ab,cs,.live⟩]):=by
  show((match bw σ ab x with
   |none=>ab
   |some (n,cs)=>if n==0 then aa (AV.emp,σ)else if n<=eE then aa (AV.sl (ah σ) (ah cs) 0 n,σ ++ [aO.mk ab cs .live])else ab):Option (AV×aq))=_
  rw[e];simp only;rw[aC (by simpa using g),aD h]
 have b:ev (λ_ _ _=>ab) σ (ah σ) [] (rv [x,.aW] [x]) (.pI ae (.t 0))=aa (.bool ae,ab):=d;simp only[cP,exec,dJ,lines,dQ,want,dN.mb,dN.mU,↓reduceIte,ff,mF];simp only[show ∀(σ:aq) (env:ao),ev (λ_ _ _=>ab) σ (ah σ) [] (rv [x,.aW] env) (.mv (.c .aJ))=aa (.aJ,ab)from λ_ _=>rfl,eI,outs,eY,nth,↓reduceIte,ff,mF];simp only[show ∀(σ:aq) (env:ao),ev (λ_ _ _=>ab) σ (ah σ) [] (rv [x,.aW] env) (.mv (.v 0))=aa (x,ab)from λ_ _=>rfl,b,nth,ff,↓reduceIte,mF];simp only[show ∀(σ:aq) (env:ao),ev (λ_ _ _=>ab) σ (ah σ) [] (rv [x,.aW] env) (.ue 1)=aa (.emp,ab)from λ_ _=>rfl,show ∀(σ:aq) (env:ao),ev (λ_ _ _=>ab) σ (ah σ) [] (rv [x,.aW] env) (.mv (.v 0))=aa (x,ab)from λ_ _=>rfl,a];simp only[show ∀(σ:aq) (env:ao),ev (λ_ _ _=>ab) σ (ah σ) [] (rv [x,.aW] env) (.mv (.t 0))=aa (nth env 0,ab)from λ_ _=>rfl,nth,eI,outs,eY]
def aiK(hm:P.follows .mixedOrders=ad) (dR:rK P f (cP t) sl=ad):fH P f gw:=by
 have hb:dm P f=ad:=by
  unfold rK at dR;cases hf:P.funcs[f]? with
  |none=>simp[hf]at dR
  |some pf=>simp only[hf,bd]at dR;exact dR.1
 refine⟨hb,λce _ _ args σ r dC hp ids I w vs hg hv=>?_⟩;have sg:cR P (eJ (λg=>if g=f then aa (cP t)else ab) (λ_=>ab) 9 1):=
  (Eb hm (λg fn h=>by
   by_cases e:g=f
   .subst e;simp at h;subst h;exact⟨sl,dR⟩
   .simp[e]at h) (λ_ _ h=>fE) 1).1
 have yz:∀v,v = .slice ab 0 0->Calls P f [v].toArray w λe w' =>∃v cA I', e = .returned v/\Good (aI σ cA I') w' /\VR (aI σ cA I') w'.heap .emp v/\Step (aI σ ids I) w (aI σ cA I') w' :=λv e=>by
  refine(sg f [.aJ] σ .aJ σ (y8 f t σ .aJ _ .aJ (aiJ t σ) rfl) ids I w [v] hg ⟨v,[],rfl,e,rfl⟩).mono ?_;rintro e w' ⟨v,cA, I', rfl,k1,k2,k3⟩;refine⟨v,cA, I', rfl,k1,?_,k3⟩;unfold VR at k2 ⊢;exact⟨ab,k2⟩
 have aiL:∀a,Calls P f [Value.slice (aa a) 0 0].toArray w λe w' =>∃v cA I', e = .returned v/\Good (aI σ cA I') w' /\VR (aI σ cA I') w'.heap .emp v/\Step (aI σ ids I) w (aI σ cA I') w' :=λa=>
  sg f [.aX ad []] σ .emp σ (y8 f t σ (.aX ad []) _ .emp (Su t σ) rfl) ids I w [_] hg ⟨_,[],rfl,by unfold VR;exact⟨rfl,.inl ⟨rfl,aa a,rfl,λ_=>rfl⟩⟩,rfl⟩
 unfold gw at hp;split at hp
 .simp only[ct,Prod.mk.injEq]at hp
  obtain⟨rfl,rfl⟩:=hp;obtain⟨v,s,rfl,hx,rfl⟩:=hv;exact yz v hx
 .simp only[ct,Prod.mk.injEq]at hp
  obtain⟨rfl,rfl⟩:=hp;obtain⟨v,s,rfl,hx,rfl⟩:=hv;unfold VR at hx;obtain⟨a,rfl⟩:=hx;cases a with
  |none=>exact yz _ rfl
  |some a=>exact aiL a
 .rename_i nn
  simp only[ct,Prod.mk.injEq]at hp;obtain⟨rfl,rfl⟩:=hp;obtain⟨v,s,rfl,hx,rfl⟩:=hv
  by_cases hn:v = .slice ab 0 0
  .exact yz v hn
  .have lh : VR (aI σ ids I) w.heap (.aX ad []) v:=by
    unfold VR at hx ⊢;refine⟨rfl,?_⟩;rcases hx.2 with⟨h1,a,h2,_⟩|h
    .refine .inl ⟨rfl,a,h2,λ_=>?_⟩
     cases a with
     |none=>exact absurd h2 hn
     |some q=>rfl
    .exact .inr h
   exact sg f [.aX ad []] σ .emp σ (y8 f t σ (.aX ad []) _ .emp (Su t σ) rfl) ids I w [v] hg ⟨v,[],rfl,lh, rfl⟩
 .rename_i nn x l
  split at hp
  .rename_i hc
   simp only[bd,fy]at hc;simp only[ct,Prod.mk.injEq]at hp;obtain⟨rfl,rfl⟩:=hp;have gR:bw σ ab (.aX nn (x::l))=aa (ah (x::l),x::l):=by
    show(if fitAll (ba ab) (x::l)=ad then aa (ah (x::l),(x::l).flatMap AV.cells)else ab)=_
    rw[aD (aiC hc.1),aiB hc.1]
   have ZA:ev (λ_ _ _=>ab) σ (ah σ) [] (rv [.aX nn (x::l),.aW] [.aX nn (x::l)]) (.pI ae (.t 0))=aa (.bool ae,ab):=by
    cases nn<;>simp[ev,rv,nth]
   have:=Sv (t:=t) (σ:=σ) ZA gR aA hc.2
   exact sg f [.aX nn (x::l)] σ _ _ (y8 f t σ _ _ (.sl (ah σ) (ah (x::l)) 0 (ah (x::l))) this wg) ids I w vs hg hv
  .simp at hp
 .rename_i b u off len
  cases hu:upto σ b u with
  |none=>simp[hu]at hp
  |some B=>
   simp only[hu]at hp;split at hp
   case isFalse=>simp at hp
   rename_i hc;simp only[bd,fy]at hc;obtain⟨⟨⟨c1,c2⟩,c3⟩,c4⟩:=hc;have c2:=DS c2;have fT:B.st = .live:=by revert c1;cases B.st<;>simp[fR.isLive]
   have gR:bw σ ab (.sl b u off len)=aa (len,(B.cells.drop off).take len):=by
    unfold bw;simp only[hu,ba,c2,Nat.mul_one];rw[aD ⟨c3,trivial⟩]
   have ZA:ev (λ_ _ _=>ab) σ (ah σ) [] (rv [.sl b u off len,.aW] [.sl b u off len]) (.pI ae (.t 0))=aa (.bool ae,ab):=by
    simp[ev,rv,nth,hu,fT]
   by_cases h0:len=0
   .subst h0
    simp only[mF,dM,ct,Prod.mk.injEq]at hp;obtain⟨rfl,rfl⟩:=hp;have:exec 9 (λ_ _ _=>ab) (cP t).body ⟨[.sl b u off 0,.aW],ab,σ⟩=aa (.ret,⟨[.aW,.emp],ab,σ⟩):=by
     have jx:gS (λ_ _ _=>ab) σ (rv [.sl b u off 0,.aW] [.sl b u off 0,.emp]) (.dH (.t 1) (.t 0) ab)=aa (.emp,σ):=by
      show((match bw σ ab (.sl b u off 0)with
       |none=>ab
       |some (n,cs)=>if n==0 then aa (AV.emp,σ)else if n<=eE then aa (AV.sl (ah σ) (ah cs) 0 n,σ ++ [aO.mk ab cs .live])else ab):Option (AV×aq))=_
      rw[gR];rfl
     simp only[cP,exec,dJ,lines,dQ,want,dN.mb,dN.mU,↓reduceIte,ff,mF];simp only[show ∀(σ:aq) (env:ao),ev (λ_ _ _=>ab) σ (ah σ) [] (rv [.sl b u off 0,.aW] env) (.mv (.c .aJ))=aa (.aJ,ab)from λ_ _=>rfl,eI,outs,eY,nth,↓reduceIte,ff,mF];simp only[show ∀(σ:aq) (env:ao),ev (λ_ _ _=>ab) σ (ah σ) [] (rv [.sl b u off 0,.aW] env) (.mv (.v 0))=aa (.sl b u off 0,ab)from λ_ _=>rfl,ZA,nth,ff,↓reduceIte,mF];simp only[show ∀(σ:aq) (env:ao),ev (λ_ _ _=>ab) σ (ah σ) [] (rv [.sl b u off 0,.aW] env) (.ue 1)=aa (.emp,ab)from λ_ _=>rfl,show ∀(σ:aq) (env:ao),ev (λ_ _ _=>ab) σ (ah σ) [] (rv [.sl b u off 0,.aW] env) (.mv (.v 0))=aa (.sl b u off 0,ab)from λ_ _=>rfl,jx];simp only[show ∀(σ:aq) (env:ao),ev (λ_ _ _=>ab) σ (ah σ) [] (rv [.sl b u off 0,.aW] env) (.mv (.t 0))=aa (nth env 0,ab)from λ_ _=>rfl,nth,eI,outs,eY]
    exact sg f [.sl b u off 0] σ _ _ (y8 f t σ _ _ .emp this wg) ids I w vs hg hv
   .have h0' : (len==0)=ae:=by simpa using h0
    simp only[h0', ff,fv,ct,Prod.mk.injEq]at hp;obtain⟨rfl,rfl⟩:=hp;have:=Sv (t:=t) (σ:=σ) ZA gR h0 c4;rw[show(ah ((B.cells.drop off).take len))=len by simp;omega]at this
    exact sg f [.sl b u off len] σ _ _ (y8 f t σ _ _ (.sl (ah σ) len 0 len) this wg) ids I w vs hg hv
 .simp at hp
end Ab
