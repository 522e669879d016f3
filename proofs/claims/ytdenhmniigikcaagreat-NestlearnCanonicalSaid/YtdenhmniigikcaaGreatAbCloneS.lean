/- A copy of a slice (the library's slices.Clone), known by what it answers, though it asks whether its argument is nil. Condition: the function's small text. slices.Clone at lists of lists: the copy is a new block. Condition: the function's small text. Condition: none. -/
import Derived.Test.YtdenhmniigikcaaGreatAbC
import Derived.Test.YtdenhmniigikcaaGreatAbL
import Derived.Test.YtdenhmniigikcaaGreatAbSortM
set_option linter.all false
namespace Ab
open Go
variable{P:Program}
def dm (t:Nat):Fn:={np:=1,nv:=2,res:=[(1,none)],body:=
 (.seq (.cq ⟨[⟨.mv (.c (.ae)),none,false⟩],[],[1],none⟩)
  (.seq (.seq (.cq ⟨[⟨.mv (.v 0),none,false⟩,⟨.mP false (.t 0),none,false⟩],[],[],some (t,0)⟩)
  (.cond t (.seq (.cq ⟨[⟨.mv (.c (.ae)),none,false⟩],[(1,0)],[0],none⟩) .ret) .skip))
  (.seq (.cq ⟨[⟨.cp [] 1,none,false⟩,⟨.mv (.v 0),none,false⟩,⟨.cu (.t 1) (.t 0) none,none,false⟩,⟨.mv (.t 0),none,false⟩],[(1,0)],[0],none⟩) .ret)))}
variable{l:List AV}
theorem aea(h:l.all isScalar=true):l.flatMap AV.cells=l:=by
 induction l with
 |nil=>rfl
 |cons x r a=>
  simp only[List.all_cons,aA]at h;rw[gX,a h.2];cases x<;>simp_all [isScalar,AV.cells]
theorem aeb(h:l.all isScalar=true):fitAll 1 l=true:=by
 induction l with
 |nil=>rfl
 |cons x r a=>
  simp only[List.all_cons,aA]at h;simp only[fitAll,a h.2,Bool.and_true];cases x<;>simp_all [isScalar,AV.cells,bg]
end Ab
namespace Ab
open Go
variable{P:Program}
theorem aec{l:List AV}(h:l.all pH=true):(l.map fD).flatMap AV.cells=l.map fD/\fitAll 1 (l.map fD)=true:=by
 induction l with
 |nil=>exact⟨rfl,rfl⟩
 |cons x r a=>
  simp only[List.all_cons,aA]at h;obtain⟨b,d⟩:=a h.2;simp only[cJ,gX,b,fitAll,d,Bool.and_true];cases x<;>simp_all [pH,fD,AV.cells,bg]
theorem jc.fD{C:Ctx}{H:Array Obj}{c:Array Value}{st:Nat}:∀{l:List AV}{off:Nat},jc C H c st l off->jc C H c st (l.map Ab.fD) off
 | [],_,_=>trivial
 |x::r,off,⟨⟨v,h1,h2⟩,h3⟩=>⟨⟨v,h1.fD,h2⟩,jc.fD h3⟩
variable{σ:List ah}{y:AV}{r:List AV}
theorem aed(a:fitAll 1 (y::r)=true) (d:(y::r).flatMap AV.cells=y::r) (g:(y::r).length<=dz) :
  fI (λ_ _ _=>none) σ (rv [.au true (y::r),.aF] [.au true (y::r),.arr []]) (.cu (.t 1) (.t 0) none)=some (.sl σ.length (y::r).length 0 (y::r).length,σ ++ [⟨none,y::r,.live⟩]):=by
 have h:aJ σ none (.au true (y::r))=some ((y::r).length,y::r):=by
  simp only[aJ,aE];rw[ab a,d]
 have e:fI (λ_ _ _=>none) σ (rv [.au true (y::r),.aF] [.au true (y::r),.arr []]) (.cu (.t 1) (.t 0) none) =
   (match aJ σ none (.au true (y::r))with
    |none=>none
    |some (n,cs)=>if n==0 then some (if ax ([]:List AV)then .au true []else .arr [],σ)else if fitAll (aE none) []&&decide (([]:List AV).length+n<=dz)then some (.sl σ.length (([]:List AV).flatMap AV.cells++cs).length 0 (([]:List AV).length+n),σ ++ [⟨none,([]:List AV).flatMap AV.cells++cs,.live⟩])else none):=rfl
 have b : (([]:List AV).length+(y::r).length:Nat)<=dz:=by rw[dg,gq];exact g
 rw[e,h];show(if(r.length+1==0)=true then _ else _)=_
 rw[aa (by simp),ab (by simp only[fitAll,Bool.true_and,dY];exact b)]
 simp
variable{t:Nat}
theorem aee(a:fitAll 1 (y::r)=true) (d:(y::r).flatMap AV.cells=y::r) (e:(y::r).length<=dz) :
  exec 9 (λ_ _ _=>none) (dm t).body ⟨[.au true (y::r),.aF],none,σ⟩=some (.ret,⟨[.aF,.sl σ.length (y::r).length 0 (y::r).length],none,σ ++ [⟨none,y::r,.live⟩]⟩):=by
 have b:=aed (σ:=σ) a d e;simp only[dm,exec,da,lines,cT,want,ev,cS.kn,cS.kP,↓reduceIte,eo,rv,nth,kE,fitAll,List.map_nil];simp only[dC,outs,eu,nth,↓reduceIte,eo,kE,b]
theorem aef (t:Nat) (σ:List ah):exec 9 (λ_ _ _=>none) (dm t).body ⟨[.ae,.aF],none,σ⟩=some (.ret,⟨[.aF,.ae],none,σ⟩):=by
 simp[dm,exec,da,lines,cT,want,ev,cS.kn,cS.kP,rv,nth,dC,outs,eu]
theorem aeg (t:Nat) (σ:List ah):exec 9 (λ_ _ _=>none) (dm t).body ⟨[.au true [],.aF],none,σ⟩=some (.ret,⟨[.aF,.au true []],none,σ⟩):=by
 simp[dm,exec,da,lines,cT,want,ev,fI,cS.kn,cS.kP,rv,nth,dC,outs,eu,aJ,fitAll,ax]
theorem ED (f t:Nat) (σ:List ah):∀x s r,exec 9 (λ_ _ _=>none) (dm t).body ⟨[x,.aF],none,σ⟩=some (.ret,s)->Ab.results (dm t) s=some r->
   dD (λg=>if g=f then some (dm t)else none) (λ_=>none) 9 1 f [x] σ=some (r,s.σ):=λx s r a b=>by
  have d:dD (λg=>if g=f then some (dm t)else none) (λ_=>none) 9 0=λ_ _ _=>none:=rfl
  unfold dD;rw[d];simp only[dt];rw[show({vars:=[x]++List.replicate ((dm t).nv-(dm t).np) .aF,fl:=none,σ:=σ}:St)=⟨[x,.aF],none,σ⟩from rfl];rw[a,ab (show([x].length==(dm t).np)=true from rfl)];simp only[b,l6]
variable{f:Nat}{sl:List Nat}
theorem aeh(H:P.follows .mixedOrders=true) (d:oX P f (dm t) sl=true):et P f gf:=by
 have J:cz P f=true:=by
  unfold oX at d;cases C:P.funcs[f]? with
  |none=>simp[C]at d
  |some U=>simp only[C,aA]at d;exact d.1
 refine⟨J,λce _ _ args σ r K i ids I w vs A B=>?_⟩;have m:ck P (dD (λg=>if g=f then some (dm t)else none) (λ_=>none) 9 1):=
  (z8 H (λg fn h=>by
   by_cases e:g=f
   .subst e;simp at h;subst h;exact⟨sl,d⟩
   .simp[e]at h) (λ_ _ h=>by simp at h) 1).1
 have j:∀v,v = .slice none 0 0->Calls P f [v].toArray w λe w' =>∃v b I', e = .returned v/\Good (ad σ b I') w' /\VR (ad σ b I') w'.heap (.au false []) v/\Step (ad σ ids I) w (ad σ b I') w' :=λv e=>by
  refine(m f [.ae] σ .ae σ (ED f t σ .ae _ .ae (aef t σ) rfl) ids I w [v] A ⟨v,[],rfl,e,rfl⟩).mono ?_;rintro e w' ⟨v,b, I', rfl,p,u,z⟩;exact⟨v,b, I', rfl,p,VR.fD (x:=.ae) u,z⟩
 unfold gf at i;split at i
 .simp only[bJ,Prod.mk.injEq]at i
  obtain⟨rfl,rfl⟩:=i;obtain⟨v,s,rfl,n,rfl⟩:=B;exact j v n
 .rename_i L
  simp only[bJ,Prod.mk.injEq]at i;obtain⟨rfl,rfl⟩:=i;obtain⟨v,s,rfl,n,rfl⟩:=B
  by_cases D:v = .slice none 0 0
  .exact j v D
  .have o : VR (ad σ ids I) w.heap (.au true []) v:=by
    unfold VR at n ⊢;refine⟨rfl,?_⟩;rcases n.2 with⟨E,a,F,_⟩|h
    .refine .inl ⟨rfl,a,F,λ_=>?_⟩
     cases a with
     |none=>exact absurd F D
     |some q=>rfl
    .exact .inr h
   refine(m f [.au true []] σ (.au true []) σ (ED f t σ (.au true []) _ (.au true []) (aeg t σ) rfl) ids I w [v] A ⟨v,[],rfl,o, rfl⟩).mono ?_;rintro e w' ⟨v,b, I', rfl,p,u,z⟩;exact⟨v,b, I', rfl,p,VR.fD (x:=.au true []) u,z⟩
 .rename_i L x l
  split at i
  .rename_i G
   simp only[aA,dY]at G;obtain⟨⟨M,N⟩,O⟩:=G;simp only[bJ,Prod.mk.injEq]at i;obtain⟨rfl,rfl⟩:=i;obtain⟨v,s,rfl,n,rfl⟩:=B;obtain⟨Q,R⟩:=aec M;have o : VR (ad σ ids I) w.heap (.au true ((x::l).map fD)) v:=by
    unfold VR at n ⊢;refine⟨L3 N,?_⟩;rcases n.2 with⟨E,_⟩|⟨ak,off,cap,st,c,el,S,e,p,u,z,T⟩
    .simp at E
    .exact .inr ⟨ak,off,cap,st,c,el,S,by simpa using e,by simpa using p,u,z,jc.fD T⟩
   have:=aee (t:=t) (σ:=σ) (y:=fD x) (r:=l.map fD) R Q (by simpa using O)
   refine(m f [.au true ((x::l).map fD)] σ _ _ (ED f t σ _ _ (.sl σ.length (x::l).length 0 (x::l).length) this (by simp[Ab.results,dm,bI,iY,nth])) ids I w [v] A ⟨v,[],rfl,o, rfl⟩)
  .simp at i
 .simp at i
def bR (t:Nat):Fn:={np:=1,nv:=2,res:=[(1,none)],body:=
 (.seq (.cq ⟨[⟨.mv (.c (.ae)),none,false⟩],[],[1],none⟩)
  (.seq (.seq (.cq ⟨[⟨.mv (.v 0),none,false⟩,⟨.mP false (.t 0),none,false⟩],[],[],some (t,0)⟩)
  (.cond t (.seq (.cq ⟨[⟨.mv (.c (.ae)),none,false⟩],[(1,0)],[0],none⟩) .ret) .skip))
  (.seq (.cq ⟨[⟨.qP 1,none,false⟩,⟨.mv (.v 0),none,false⟩,⟨.cu (.t 1) (.t 0) none,none,false⟩,⟨.mv (.t 0),none,false⟩],[(1,0)],[0],none⟩) .ret)))}
theorem vg (f t:Nat) (σ:List ah):∀x s r,exec 9 (λ_ _ _=>none) (bR t).body ⟨[x,.aF],none,σ⟩=some (.ret,s)->Ab.results (bR t) s=some r->
   dD (λg=>if g=f then some (bR t)else none) (λ_=>none) 9 1 f [x] σ=some (r,s.σ):=λx s r a b=>by
  have d:dD (λg=>if g=f then some (bR t)else none) (λ_=>none) 9 0=λ_ _ _=>none:=rfl
  unfold dD;rw[d];simp only[dt];rw[show({vars:=[x]++List.replicate ((bR t).nv-(bR t).np) .aF,fl:=none,σ:=σ}:St)=⟨[x,.aF],none,σ⟩from rfl];rw[a,ab (show([x].length==(bR t).np)=true from rfl)];simp only[b,l6]
theorem aei (t:Nat) (σ:List ah):exec 9 (λ_ _ _=>none) (bR t).body ⟨[.ae,.aF],none,σ⟩=some (.ret,⟨[.aF,.ae],none,σ⟩):=by
 simp[bR,exec,da,lines,cT,want,ev,cS.kn,cS.kP,rv,nth,dC,outs,eu]
theorem Oh (t:Nat) (σ:List ah):exec 9 (λ_ _ _=>none) (bR t).body ⟨[.au true [],.aF],none,σ⟩=some (.ret,⟨[.aF,.emp],none,σ⟩):=by
 simp[bR,exec,da,lines,cT,want,ev,fI,cS.kn,cS.kP,rv,nth,dC,outs,eu,aJ,fitAll,ax]
theorem Oi{x:AV}{n:Nat}{cs:List AV}(d:ev (λ_ _ _=>none) σ σ.length [] (rv [x,.aF] [x]) (.mP false (.t 0))=some (.bool false,none)) (e:aJ σ none x=some (n,cs)) (g:n ≠ 0) (h:n<=dz) :
  exec 9 (λ_ _ _=>none) (bR t).body ⟨[x,.aF],none,σ⟩=some (.ret,⟨[.aF,.sl σ.length cs.length 0 n],none,σ ++ [⟨none,cs,.live⟩]⟩):=by
 have a:fI (λ_ _ _=>none) σ (rv [x,.aF] [x,.emp]) (.cu (.t 1) (.t 0) none)=some (.sl σ.length cs.length 0 n,σ ++ [⟨none,cs,.live⟩]):=by
  show((match aJ σ none x with
   |none=>none
   |some (n,cs)=>if n==0 then some (AV.emp,σ)else if n<=dz then some (AV.sl σ.length cs.length 0 n,σ ++ [ah.mk none cs .live])else none):Option (AV×List ah))=_
  rw[e];simp only;rw[aa (by simpa using g),ab h]
 have b:ev (λ_ _ _=>none) σ σ.length [] (rv [x,.aF] [x]) (.mP false (.t 0))=some (.bool false,none):=d;simp only[bR,exec,da,lines,cT,want,cS.kn,cS.kP,↓reduceIte,eo,kE];simp only[show ∀(σ:List ah) (env:List AV),ev (λ_ _ _=>none) σ σ.length [] (rv [x,.aF] env) (.mv (.c .ae))=some (.ae,none)from λ_ _=>rfl,dC,outs,eu,nth,↓reduceIte,eo,kE];simp only[show ∀(σ:List ah) (env:List AV),ev (λ_ _ _=>none) σ σ.length [] (rv [x,.aF] env) (.mv (.v 0))=some (x,none)from λ_ _=>rfl,b,nth,eo,↓reduceIte,kE];simp only[show ∀(σ:List ah) (env:List AV),ev (λ_ _ _=>none) σ σ.length [] (rv [x,.aF] env) (.qP 1)=some (.emp,none)from λ_ _=>rfl,show ∀(σ:List ah) (env:List AV),ev (λ_ _ _=>none) σ σ.length [] (rv [x,.aF] env) (.mv (.v 0))=some (x,none)from λ_ _=>rfl,a];simp only[show ∀(σ:List ah) (env:List AV),ev (λ_ _ _=>none) σ σ.length [] (rv [x,.aF] env) (.mv (.t 0))=some (nth env 0,none)from λ_ _=>rfl,nth,dC,outs,eu]
theorem aej(hm:P.follows .mixedOrders=true) (db:oX P f (bR t) sl=true):et P f fP:=by
 have hb:cz P f=true:=by
  unfold oX at db;cases hf:P.funcs[f]? with
  |none=>simp[hf]at db
  |some pf=>simp only[hf,aA]at db;exact db.1
 refine⟨hb,λce _ _ args σ r cG hp ids I w vs hg hv=>?_⟩;have pD:ck P (dD (λg=>if g=f then some (bR t)else none) (λ_=>none) 9 1):=
  (z8 hm (λg fn h=>by
   by_cases e:g=f
   .subst e;simp at h;subst h;exact⟨sl,db⟩
   .simp[e]at h) (λ_ _ h=>by simp at h) 1).1
 have uK:∀v,v = .slice none 0 0->Calls P f [v].toArray w λe w' =>∃v bO I', e = .returned v/\Good (ad σ bO I') w' /\VR (ad σ bO I') w'.heap .emp v/\Step (ad σ ids I) w (ad σ bO I') w' :=λv e=>by
  refine(pD f [.ae] σ .ae σ (vg f t σ .ae _ .ae (aei t σ) rfl) ids I w [v] hg ⟨v,[],rfl,e,rfl⟩).mono ?_;rintro e w' ⟨v,bO, I', rfl,k1,k2,k3⟩;refine⟨v,bO, I', rfl,k1,?_,k3⟩;unfold VR at k2 ⊢;exact⟨none,k2⟩
 have aek:∀a,Calls P f [Value.slice (some a) 0 0].toArray w λe w' =>∃v bO I', e = .returned v/\Good (ad σ bO I') w' /\VR (ad σ bO I') w'.heap .emp v/\Step (ad σ ids I) w (ad σ bO I') w' :=λa=>
  pD f [.au true []] σ .emp σ (vg f t σ (.au true []) _ .emp (Oh t σ) rfl) ids I w [_] hg ⟨_,[],rfl,by unfold VR;exact⟨rfl,.inl ⟨rfl,some a,rfl,λ_=>rfl⟩⟩,rfl⟩
 unfold fP at hp;split at hp
 .simp only[bJ,Prod.mk.injEq]at hp
  obtain⟨rfl,rfl⟩:=hp;obtain⟨v,s,rfl,hx,rfl⟩:=hv;exact uK v hx
 .simp only[bJ,Prod.mk.injEq]at hp
  obtain⟨rfl,rfl⟩:=hp;obtain⟨v,s,rfl,hx,rfl⟩:=hv;unfold VR at hx;obtain⟨a,rfl⟩:=hx;cases a with
  |none=>exact uK _ rfl
  |some a=>exact aek a
 .rename_i nn
  simp only[bJ,Prod.mk.injEq]at hp;obtain⟨rfl,rfl⟩:=hp;obtain⟨v,s,rfl,hx,rfl⟩:=hv
  by_cases hn:v = .slice none 0 0
  .exact uK v hn
  .have pF : VR (ad σ ids I) w.heap (.au true []) v:=by
    unfold VR at hx ⊢;refine⟨rfl,?_⟩;rcases hx.2 with⟨h1,a,h2,_⟩|h
    .refine .inl ⟨rfl,a,h2,λ_=>?_⟩
     cases a with
     |none=>exact absurd h2 hn
     |some q=>rfl
    .exact .inr h
   exact pD f [.au true []] σ .emp σ (vg f t σ (.au true []) _ .emp (Oh t σ) rfl) ids I w [v] hg ⟨v,[],rfl,pF, rfl⟩
 .rename_i nn x l
  split at hp
  .rename_i hc
   simp only[aA,dY]at hc;simp only[bJ,Prod.mk.injEq]at hp;obtain⟨rfl,rfl⟩:=hp;have fG:aJ σ none (.au nn (x::l))=some ((x::l).length,x::l):=by
    show(if fitAll (aE none) (x::l)=true then some ((x::l).length,(x::l).flatMap AV.cells)else none)=_
    rw[ab (aeb hc.1),aea hc.1]
   have Uz:ev (λ_ _ _=>none) σ σ.length [] (rv [.au nn (x::l),.aF] [.au nn (x::l)]) (.mP false (.t 0))=some (.bool false,none):=by
    cases nn<;>simp[ev,rv,nth]
   have:=Oi (t:=t) (σ:=σ) Uz fG (by simp) hc.2
   exact pD f [.au nn (x::l)] σ _ _ (vg f t σ _ _ (.sl σ.length (x::l).length 0 (x::l).length) this (by simp[Ab.results,bR,bI,iY,nth])) ids I w vs hg hv
  .simp at hp
 .rename_i b u off len
  cases hu:upto σ b u with
  |none=>simp[hu]at hp
  |some B=>
   simp only[hu]at hp;split at hp
   case isFalse=>simp at hp
   rename_i hc;simp only[aA,dY]at hc;obtain⟨⟨⟨c1,c2⟩,c3⟩,c4⟩:=hc;have c2:=zL c2;have jo:B.st = .live:=by revert c1;cases B.st<;>simp[eM.isLive]
   have fG:aJ σ none (.sl b u off len)=some (len,(B.cells.drop off).take len):=by
    unfold aJ;simp only[hu,aE,c2,Nat.mul_one];rw[ab ⟨c3,trivial⟩]
   have Uz:ev (λ_ _ _=>none) σ σ.length [] (rv [.sl b u off len,.aF] [.sl b u off len]) (.mP false (.t 0))=some (.bool false,none):=by
    simp[ev,rv,nth,hu,jo]
   by_cases h0:len=0
   .subst h0
    simp only[kE,dt,bJ,Prod.mk.injEq]at hp;obtain⟨rfl,rfl⟩:=hp;have:exec 9 (λ_ _ _=>none) (bR t).body ⟨[.sl b u off 0,.aF],none,σ⟩=some (.ret,⟨[.aF,.emp],none,σ⟩):=by
     have gR:fI (λ_ _ _=>none) σ (rv [.sl b u off 0,.aF] [.sl b u off 0,.emp]) (.cu (.t 1) (.t 0) none)=some (.emp,σ):=by
      show((match aJ σ none (.sl b u off 0)with
       |none=>none
       |some (n,cs)=>if n==0 then some (AV.emp,σ)else if n<=dz then some (AV.sl σ.length cs.length 0 n,σ ++ [ah.mk none cs .live])else none):Option (AV×List ah))=_
      rw[fG];rfl
     simp only[bR,exec,da,lines,cT,want,cS.kn,cS.kP,↓reduceIte,eo,kE];simp only[show ∀(σ:List ah) (env:List AV),ev (λ_ _ _=>none) σ σ.length [] (rv [.sl b u off 0,.aF] env) (.mv (.c .ae))=some (.ae,none)from λ_ _=>rfl,dC,outs,eu,nth,↓reduceIte,eo,kE];simp only[show ∀(σ:List ah) (env:List AV),ev (λ_ _ _=>none) σ σ.length [] (rv [.sl b u off 0,.aF] env) (.mv (.v 0))=some (.sl b u off 0,none)from λ_ _=>rfl,Uz,nth,eo,↓reduceIte,kE];simp only[show ∀(σ:List ah) (env:List AV),ev (λ_ _ _=>none) σ σ.length [] (rv [.sl b u off 0,.aF] env) (.qP 1)=some (.emp,none)from λ_ _=>rfl,show ∀(σ:List ah) (env:List AV),ev (λ_ _ _=>none) σ σ.length [] (rv [.sl b u off 0,.aF] env) (.mv (.v 0))=some (.sl b u off 0,none)from λ_ _=>rfl,gR];simp only[show ∀(σ:List ah) (env:List AV),ev (λ_ _ _=>none) σ σ.length [] (rv [.sl b u off 0,.aF] env) (.mv (.t 0))=some (nth env 0,none)from λ_ _=>rfl,nth,dC,outs,eu]
    exact pD f [.sl b u off 0] σ _ _ (vg f t σ _ _ .emp this (by simp[Ab.results,bR,bI,iY,nth])) ids I w vs hg hv
   .have h0' : (len==0)=false:=by simpa using h0
    simp only[h0', eo,eJ,bJ,Prod.mk.injEq]at hp;obtain⟨rfl,rfl⟩:=hp;have:=Oi (t:=t) (σ:=σ) Uz fG h0 c4;rw[show((B.cells.drop off).take len).length=len by simp;omega]at this
    exact pD f [.sl b u off len] σ _ _ (vg f t σ _ _ (.sl σ.length len 0 len) this (by simp[Ab.results,bR,bI,iY,nth])) ids I w vs hg hv
 .simp at hp
end Ab
